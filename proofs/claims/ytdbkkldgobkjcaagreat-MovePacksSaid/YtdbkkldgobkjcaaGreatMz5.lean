/-
  slices.Concat at bytes: what it hands back owns the parts, one behind the other.
  items: what lives says.
  items: lists that may be, in plain words: each is known by how many of each good it has.
  codes of lists of items, in plain words: what is taken of bytes, and what is put.
  cells: slices.Clone at bytes; the maker: New, put, Num, Text, Done.
  cells of numbers: a number's cell, as the document makes it.
  cells of numbers: the first number of bytes.
-/
import Derived.Test.YtdbkkldgobkjcaaGreatLayed
import Derived.Test.YtdbkkldgobkjcaaGreatMz4
import Derived.Test.YtdbkkldgobkjcaaGreatMz1
import Derived.Laws.IdiomStrings
import Derived.Lib.SliceRun
import Derived.Laws.Bits64b
import Derived.Shelf.Bytes.SlSmallAll
import Derived.Deep.RegionWith

set_option linter.unusedVariables false
set_option linter.unusedSimpArgs false
namespace Go.Proofs.YtdbkkldgobkjcaaGreat
open Go.RowKit Go.Shelf
namespace CatB

/-- a part: its address, length, capacity, cells -/
abbrev Part := Option Addr × Nat × Nat × List Value
def pv (p : Part) : Value := .slice p.1 p.2.1 p.2.2.1
def lens : List Part → Nat
  | [] => 0
  | p :: r => p.2.1 + lens r
def all (l : List Part) : List Value := (l.map (·.2.2.2)).flatten
theorem lens_le (l : List Part) (k : Nat) : lens (l.take k) ≤ lens l := by
  induction l generalizing k with
  | nil => simp [lens]
  | cons p r ih =>
    cases k with
    | zero => simp [lens]
    | succ k => simp only [List.take_succ_cons, lens]; have := ih k; omega
theorem lens_succ (l : List Part) (k : Nat) (h : k < l.length) : lens (l.take (k + 1)) = lens (l.take k) + l[k].2.1 := by
  induction l generalizing k with
  | nil => simp at h
  | cons p r ih =>
    cases k with
    | zero => simp [lens]
    | succ k => simp only [List.take_succ_cons, lens, List.getElem_cons_succ]; rw [ih k (by simpa using h)]; omega
theorem all_succ (l : List Part) (k : Nat) (h : k < l.length) : all (l.take (k + 1)) = all (l.take k) ++ l[k].2.2.2 := by
  unfold all
  induction l generalizing k with
  | nil => simp at h
  | cons p r ih =>
    cases k with
    | zero => simp
    | succ k =>
      simp only [List.take_succ_cons, List.map_cons, List.flatten_cons, List.getElem_cons_succ, List.append_assoc]
      rw [ih k (by simpa using h)]

set_option maxHeartbeats 1000000 in
theorem grow_calls (n : Nat) (w : World) (hn : n ≤ 1000000) :
    Calls Tryz.prog 134 #[.slice none 0 0, .int .i64 n] w fun e w' => (∃ v, e = .returned v ∧ w'.ownsRow w.heap.size 5 1 v 0 []) ∧ Below w.heap.size w w' := by
  cases n with
  | zero =>
    refine (Any8.slices_Grow_room Tryz.grow134 none 0 0 0 w (by omega) (by omega) (by omega) (by omega)).mono ?_
    rintro e w' ⟨rfl, rfl⟩
    exact ⟨⟨_, rfl, World.ownsRow_nil _ _ _ _⟩, Below.refl _ _⟩
  | succ n =>
    obtain ⟨i0, hi0, hz0⟩ := Option.map_eq_some_iff.1 Ce.byte_info
    simp only [Prod.mk.injEq] at hz0
    obtain ⟨hz0, hz1, hz2⟩ := hz0
    refine (Any8.slices_Grow_grow Tryz.grow134 i0 _ hi0 hz0 (by omega) none 0 0 (n + 1) [] w (by omega) (by omega) (by rw [hz2]; omega) (by omega) (by simp) (by simp) (by simp)).mono ?_
    rintro e w' ⟨rfl, rfl⟩
    have hG := grownCap_le_maxLen w (0 + (n + 1)) 0 (Tryz.grow134_ren.t 25) (by unfold maxLen; omega)
    have hge := grownCap_ge w (0 + (n + 1)) 0 (Tryz.grow134_ren.t 25)
    refine ⟨⟨_, rfl, ?_⟩, ((Below.refl w.heap.size w).drew).alloc (Nat.le_refl _) _⟩
    refine World.ownsRow_made w.drew _ _ (Nat.le_refl _) hG ?_
    generalize grownCap w (0 + (n + 1)) 0 (Tryz.grow134_ren.t 25) = G at *
    simp only [Array.size_append, size_zeroCells, Value.cells]
    simp
    omega

/-- the parts lie in memory -/
structure Parts (w : World) (B : Nat) (l : List Part) : Prop where
  sl : ∀ p ∈ l, Sl w 0 B 1 (pv p) p.2.1 p.2.2.2
  one : ∀ p ∈ l, ∀ y ∈ p.2.2.2, y.oneCell' = true

set_option maxRecDepth 100000 in
set_option maxHeartbeats 4000000 in
theorem concat_calls (l : List Part) (bk c : Nat) (w : World) (hlc : l.length ≤ c) (hc : c ≤ maxLen) (hbk : bk < w.heap.size) (hcell : ∀ j (h : j < l.length), w.cell? ⟨bk, j, none⟩ = some (pv l[j])) (hp : Parts w w.heap.size l) (hlen : lens l ≤ 1000000) :
    Calls Tryz.prog 123 #[.slice (some ⟨bk, 0, none⟩) l.length c] w fun e w' => (∃ v, e = .returned v ∧ w'.ownsRow w.heap.size 5 1 v (lens l) (all l)) ∧ Below w.heap.size w w' := by
  have HC := Lib.hid hcell
  clear hcell
  unfold maxLen at hc
  have cG := Lib.hid (fun W => grow_calls (lens l) W hlen)
  have hle := Lib.hid (lens_le l)
  have hls := Lib.hid (lens_succ l)
  have hla := Lib.hid (show lens (l.take l.length) = lens l by rw [List.take_length])
  have hal := Lib.hid (show all (l.take l.length) = all l by rw [List.take_length])
  have has := Lib.hid (all_succ l)
  generalize lens l = T at *
  go_enter Tryz.func123, Tryz.ntmps123
  go_wp2_with fail
  go_loop [3, 5, 11] (fun s _ i => ∃ k : Nat, k ≤ l.length ∧ i = .int .i64 k ∧ s = .int .i64 (lens (l.take k))) (fun _ _ i => l.length - (intOf i).toNat)
  case atStart => exact ⟨0, by omega, rfl, rfl⟩
  case round =>
    obtain ⟨k, hk, rfl, rfl⟩ := hrel
    by_cases hlt : k < l.length
    · have hck := HC.out k hlt
      have hS0 := hls.out k hlt
      have h1 := hle.out k
      have h2 := hle.out (k + 1)
      rw [hS0] at h2
      generalize l[k] = p at hck hS0 h2
      obtain ⟨A, n, c', xs⟩ := p
      simp only [pv] at hck
      dsimp only at h2 hS0
      have hS := Lib.hid hS0
      clear hS0
      generalize lens (l.take k) = S at *
      have hneg : decide (((S : Int) + (n : Int)) < 0) = false := by simp; omega
      have hw : wrap64 ((S : Int) + (n : Int)) = (S : Int) + (n : Int) := by unfold wrap64; omega
      go_wp2
      go_round
      case rel => exact ⟨k + 1, by omega, by go_num, by rw [hS.out]; go_num⟩
      case measure => simp [intOf]; omega
    · obtain rfl : k = l.length := by omega
      rw [hla.out]
      go_wp2_with fail
      refine (cG.out _).mono ?_
      rintro e w1 ⟨⟨v, rfl, hv⟩, h1⟩
      have hs1 := h1.size
      go_wp2_with fail
      go_loopw [6, 8, 27] (fun u _ i wr => ∃ k : Nat, k ≤ l.length ∧ i = .int .i64 k ∧ wr.ownsRow w.heap.size 5 1 u (lens (l.take k)) (all (l.take k)) ∧ Below w.heap.size w wr) (fun _ _ i _ => l.length - (intOf i).toNat)
      case atStart => exact ⟨0, by omega, rfl, hv, h1⟩
      case round =>
        obtain ⟨k, hk, rfl, hown, hB⟩ := hrel
        by_cases hlt : k < l.length
        · have hck0 := HC.out k hlt
          have hck := (hB.cell (p := ⟨bk, k, none⟩) hbk).trans hck0
          have hsl := (hp.sl _ (List.getElem_mem hlt)).below hB
          have hone := Lib.hid (hp.one _ (List.getElem_mem hlt))
          have hS0 := hls.out k hlt
          have hA0 := has.out k hlt
          have h2 := hle.out (k + 1)
          rw [hS0] at h2
          clear hck0
          generalize l[k] = p at hck hS0 hA0 h2 hsl hone
          obtain ⟨A, n, c', xs⟩ := p
          simp only [pv] at hck hsl
          dsimp only at h2 hS0 hA0 hsl hone
          have hS := Lib.hid hS0
          have hA := Lib.hid hA0
          clear hS0 hA0
          generalize lens (l.take k) = S at *
          generalize all (l.take k) = X at *
          obtain ⟨i0, hi0, hz0⟩ := Option.map_eq_some_iff.1 Ce.byte_info
          simp only [Prod.mk.injEq] at hz0
          obtain ⟨hz0, hz1, hz2⟩ := hz0
          go_wp2_with (at_builtin
                       refine wpList_append_sl _ rfl (.tmp 31) (.tmp 32) _ rfl w.heap.size 5 i0 _ 1 1 Tryz.underlying65 hi0 hz0 hz1 hz2 rfl (by omega) u6 S X rfl hown 0 w.heap.size _ n xs rfl hsl hone.out (by unfold maxLen; omega) (by omega) hB.size ?_
                       intro v1 w5 hv1 hg1 hat1)
          go_roundw
          case rel => exact ⟨k + 1, by omega, by go_num, by rw [hS.out, hA.out]; exact hv1, hB.grown hg1 hB.size (fun g hg => (hown.lt g hg).1)⟩
          case measure => simp [intOf]; omega
        · obtain rfl : k = l.length := by omega
          rw [hla.out, hal.out] at hown
          obtain ⟨A5, c5, rfl, -⟩ := (Sl.of_own hown).at_
          go_wp2
          go_ret
          exact ⟨⟨_, rfl, hown⟩, hB⟩
end CatB
end Go.Proofs.YtdbkkldgobkjcaaGreat

namespace Go.Proofs.YtdbkkldgobkjcaaGreat
open Go.RowKit Go.Maps
namespace It

def sa : ByteArray := ⟨#[97]⟩
def sb : ByteArray := ⟨#[98]⟩
def sc : ByteArray := ⟨#[99]⟩
def la : List Item := [(sa, 3), (sb, 2)]
def lb : List Item := [(sa, 1), (sc, 5)]
theorem l_meet : both meetF la lb = [(sa, 1)] := by kernel_rfl
theorem l_rest : both restF la lb = [(sa, 2), (sb, 2)] := by kernel_rfl
theorem l_plus : plusOf la lb = ([(sa, 4), (sb, 2), (sc, 5)], 0) := by kernel_rfl
theorem l_minus : minusOf la lb = ([], 51) := by kernel_rfl
theorem l_covers : covers la [(sa, 1)] = true := by kernel_rfl
theorem l_of : ofSum sb la = 2 := by kernel_rfl
theorem l_may : may la = true := by kernel_rfl
theorem fitsA : Fits la := by
  intro x hx
  simp only [la, List.mem_cons, List.not_mem_nil, or_false] at hx
  rcases hx with rfl | rfl <;> exact ⟨by simp [sa, sb, ByteArray.size, maxLen], by omega, by omega⟩
theorem fitsB : Fits lb := by
  intro x hx
  simp only [lb, List.mem_cons, List.not_mem_nil, or_false] at hx
  rcases hx with rfl | rfl <;> exact ⟨by simp [sa, sc, ByteArray.size, maxLen], by omega, by omega⟩
theorem fitsM : Fits [(sa, 1)] := by
  intro x hx
  simp only [List.mem_cons, List.not_mem_nil, or_false] at hx
  rcases hx with rfl
  exact ⟨by simp [sa, ByteArray.size, maxLen], by omega, by omega⟩

theorem neq_nil (b : Nat) (w : World) : (binOp .neq 145 (.func (.func 117) #[] #[.pointer (some ⟨b, 0, none⟩)]) .nilFunc).run Tryz.prog w = .ok (.bool true) w := by kernel_rfl

end It
end Go.Proofs.YtdbkkldgobkjcaaGreat

namespace Go.Proofs.YtdbkkldgobkjcaaGreat
open Go.RowKit Go.Maps
namespace It

theorem toList_key (s : ByteArray) : s.toList = s.data.toList := ByteArray.toList_eq s
theorem strLe_eq (a b : ByteArray) : strLe a b = !(Op.bytesLess b.toList a.toList) := by
  unfold strLe
  rw [less_eq, less_eq, Bool.eq_iff_iff]
  simp only [Bool.or_eq_true, decide_eq_true_eq, beq_iff_eq, Bool.not_eq_true', decide_eq_false_iff_not]
  constructor
  · rintro (h | h) h2
    · exact bs_asy _ _ h h2
    · rw [h] at h2; exact bs_irr _ h2
  · intro h
    rcases bs_tri a.toList b.toList with h1 | h1 | h1
    · exact .inl h1
    · exact .inr h1
    · exact absurd h1 h

def okI (x : Item) : Bool := good x.1 && decide (1 ≤ x.2) && countOk x.2
theorem okItem_eq (x : Item) (last : ByteArray) : okItem x last = (okI x && decide (last.data.toList < key x)) := by
  unfold okItem okI key
  rw [strLe_eq, Bool.not_not, less_eq, toList_key, toList_key]
theorem mayTo_iff : ∀ (l : List Item) (last : ByteArray), mayTo last l = true ↔ (∀ x ∈ l, okI x = true) ∧ (last.data.toList :: l.map key).Pairwise (· < ·)
  | [], last => by simp [mayTo]
  | x :: r, last => by
    simp only [mayTo, okItem_eq, Bool.and_eq_true, mayTo_iff r x.1, decide_eq_true_eq, List.map_cons]
    rw [show x.1.data.toList = key x from rfl]
    simp only [List.pairwise_cons, List.mem_cons, List.mem_map, forall_eq_or_imp]
    constructor
    · rintro ⟨⟨h1, h2⟩, h3, h4, h5⟩
      refine ⟨⟨h1, h3⟩, ⟨h2, fun a ha => List.lt_trans h2 (h4 a ha)⟩, h4, h5⟩
    · rintro ⟨⟨h1, h3⟩, ⟨h2, _⟩, h4, h5⟩
      exact ⟨⟨h1, h2⟩, h3, h4, h5⟩

/-- a list that may be -/
structure M (l : List Item) : Prop where
  len : l.length ≤ 16
  ok : ∀ x ∈ l, good x.1 = true ∧ 1 ≤ x.2 ∧ x.2 ≤ 1099511627776
  sorted : l.Pairwise fun a b => key a < key b
theorem good_key {x : Item} (h : good x.1 = true) : [] < key x := by
  unfold good at h
  simp only [Bool.and_eq_true, decide_eq_true_eq] at h
  have h1 := h.1.2
  unfold key
  rw [← ByteArray.size_data] at h1
  have h2 : x.1.data.toList.length = x.1.data.size := by simp
  match hl : x.1.data.toList with
  | [] => rw [hl] at h2; simp at h2; omega
  | c :: r => simp
theorem okI_iff (x : Item) : okI x = true ↔ good x.1 = true ∧ 1 ≤ x.2 ∧ x.2 ≤ 1099511627776 := by
  unfold okI
  simp only [Bool.and_eq_true, decide_eq_true_eq, countOk_iff]
  constructor
  · rintro ⟨⟨h1, h2⟩, h3⟩; exact ⟨h1, h2, h3.2⟩
  · rintro ⟨h1, h2, h3⟩; exact ⟨⟨h1, h2⟩, by omega, h3⟩
theorem may_iff (l : List Item) : may l = true ↔ M l := by
  unfold may
  rw [Bool.and_eq_true, decide_eq_true_eq, mayTo_iff]
  constructor
  · rintro ⟨⟨h1, h2⟩, h3⟩
    refine ⟨h3, fun x hx => (okI_iff x).1 (h1 x hx), ?_⟩
    have := (List.pairwise_cons.1 h2).2
    rwa [List.pairwise_map] at this
  · rintro ⟨h1, h2, h3⟩
    refine ⟨⟨fun x hx => (okI_iff x).2 (h2 x hx), List.pairwise_cons.2 ⟨fun k hk => ?_, ?_⟩⟩, h1⟩
    · obtain ⟨x, hx, rfl⟩ := List.mem_map.1 hk
      exact good_key (h2 x hx).1
    · rw [List.pairwise_map]; exact h3

theorem key_item (x : Item) : ∀ y : Item, key x = key y → x.2 = y.2 → x = y := fun y h1 h2 => by
  rw [item_eta x, item_eta y, h1, h2]
theorem tot_mem {l : List Item} (h : l.Pairwise fun a b => key a < key b) {x : Item} (hx : x ∈ l) : tot (key x) l = x.2 := by
  induction l with
  | nil => cases hx
  | cons y r ih =>
    have h' := List.pairwise_cons.1 h
    simp only [tot]
    rcases List.mem_cons.1 hx with rfl | hx
    · rw [if_pos rfl, tot_out, Int.add_zero]
      intro hk
      obtain ⟨z, hz, e⟩ := List.mem_map.1 hk
      have := h'.1 z hz
      rw [e] at this
      exact bs_irr _ this
    · rw [ih h'.2 hx, if_neg, Int.zero_add]
      intro e
      have := h'.1 x hx
      rw [e] at this
      exact bs_irr _ this
theorem tot_pos {k : Bs} {l : List Item} (h : tot k l ≠ 0) : k ∈ l.map key := Decidable.byContradiction fun hk => h (tot_out hk)
theorem M.nonneg {l : List Item} (h : M l) (k : Bs) : 0 ≤ tot k l := by
  by_cases hk : k ∈ l.map key
  · obtain ⟨x, hx, rfl⟩ := List.mem_map.1 hk
    rw [tot_mem h.sorted hx]
    have := h.ok x hx; omega
  · rw [tot_out hk]; omega
theorem M.le {l : List Item} (h : M l) (k : Bs) : tot k l ≤ 1099511627776 := by
  by_cases hk : k ∈ l.map key
  · obtain ⟨x, hx, rfl⟩ := List.mem_map.1 hk
    rw [tot_mem h.sorted hx]
    have := h.ok x hx; omega
  · rw [tot_out hk]; omega
theorem M.norm {a b : List Item} (hb : b.Pairwise fun a b => key a < key b) (hp : ∀ x ∈ b, 0 < x.2) (hk : ∀ k, tot k a = tot k b) : IsNorm a b := by
  refine ⟨hb, fun x => ⟨fun hx => ?_, fun ⟨h1, h2, h3⟩ => ?_⟩⟩
  · have h1 := tot_mem hb hx
    have h2 := hp x hx
    rw [← hk] at h1
    exact ⟨tot_pos (by omega), h1.symm, h2⟩
  · rw [hk] at h2
    obtain ⟨y, hy, e⟩ := List.mem_map.1 (tot_pos (k := key x) (l := b) (by omega))
    have := tot_mem hb hy
    rw [e, ← h2] at this
    rw [key_item x y e.symm this]
    exact hy
theorem M.ext {a b : List Item} (ha : M a) (hb : M b) (hk : ∀ k, tot k a = tot k b) : a = b :=
  (M.norm ha.sorted (fun x hx => by have := ha.ok x hx; omega) (fun _ => rfl)).unique (M.norm hb.sorted (fun x hx => by have := hb.ok x hx; omega) hk)

/-! Of, as a sum -/
theorem wrap_small {n : Int} (h1 : -9223372036854775808 ≤ n) (h2 : n ≤ 9223372036854775807) : wrap64 n = n := by unfold wrap64; omega
theorem ofStep_key (s : ByteArray) (t : Int) (x : Item) : ofStep s t x = if key x = s.data.toList then wrap64 (t + x.2) else t := by
  unfold ofStep key
  rw [toList_key, toList_key]
  by_cases h : x.1.data.toList = s.data.toList
  · rw [if_pos (by simpa using h), if_pos h]
  · rw [if_neg (by simpa using h), if_neg h]
theorem ofSum_foldl (s : ByteArray) : ∀ (l : List Item) (t : Int), (∀ x ∈ l, 0 ≤ x.2 ∧ x.2 ≤ 1099511627776) → 0 ≤ t → t + l.length * 1099511627776 ≤ 9223372036854775807 → l.foldl (ofStep s) t = t + tot s.data.toList l
  | [], t, _, _, _ => by simp [tot]
  | x :: l, t, h, h0, h1 => by
    have hx := h x (by simp)
    simp only [List.length_cons] at h1
    rw [List.foldl_cons, ofStep_key]
    simp only [tot]
    by_cases e : key x = s.data.toList
    · rw [if_pos e, if_pos e, wrap_small (by omega) (by omega), ofSum_foldl s l _ (fun y hy => h y (by simp [hy])) (by omega) (by omega)]
      omega
    · rw [if_neg e, if_neg e, ofSum_foldl s l _ (fun y hy => h y (by simp [hy])) h0 (by omega)]
      omega
theorem M.of {l : List Item} (h : M l) (s : ByteArray) : ofSum s l = tot s.data.toList l := by
  have := ofSum_foldl s l 0 (fun x hx => by have := h.ok x hx; omega) (Int.le_refl _) (by have := h.len; omega)
  unfold ofSum
  omega

/-! what is made of each item of a list -/
def made (h : Item → Int) (a : List Item) : List Item := a.filterMap fun x => if 0 < h x then some (x.1, h x) else none
theorem made_nil (h : Item → Int) : made h [] = [] := rfl
theorem made_cons (h : Item → Int) (x : Item) (l : List Item) : made h (x :: l) = (if 0 < h x then [(x.1, h x)] else []) ++ made h l := by
  unfold made
  rw [List.filterMap_cons]
  split <;> rename_i e <;> split at e <;> simp_all
theorem made_mem {h : Item → Int} {a : List Item} {y : Item} (hy : y ∈ made h a) : ∃ x ∈ a, key x = key y ∧ x.1 = y.1 ∧ y.2 = h x ∧ 0 < h x := by
  unfold made at hy
  obtain ⟨x, hx, e⟩ := List.mem_filterMap.1 hy
  split at e
  · cases e; exact ⟨x, hx, rfl, rfl, rfl, by assumption⟩
  · cases e
theorem made_sorted {h : Item → Int} {a : List Item} (ha : a.Pairwise fun a b => key a < key b) : (made h a).Pairwise fun a b => key a < key b := by
  unfold made
  rw [List.pairwise_filterMap]
  refine ha.imp fun {x y} hxy u hu v hv => ?_
  split at hu <;> cases hu
  split at hv <;> cases hv
  exact hxy
theorem made_M {h : Item → Int} {a : List Item} (ha : M a) (hh : ∀ x ∈ a, h x ≤ 1099511627776) : M (made h a) := by
  refine ⟨Nat.le_trans (List.length_filterMap_le _ _) ha.len, fun y hy => ?_, made_sorted ha.sorted⟩
  obtain ⟨x, hx, _, e, e2, h3⟩ := made_mem hy
  have := hh x hx
  rw [← e, e2]
  exact ⟨(ha.ok x hx).1, by omega, this⟩
theorem made_tot (h : Item → Int) (k : Bs) : ∀ (a : List Item), a.Pairwise (fun a b => key a < key b) → tot k (made h a) = match a.find? (fun x => decide (key x = k)) with | some x => (if 0 < h x then h x else 0) | none => 0
  | [], _ => rfl
  | x :: l, ha => by
    have h' := List.pairwise_cons.1 ha
    rw [made_cons, tot_append, made_tot h k l h'.2, List.find?_cons]
    by_cases e : key x = k
    · have hn : l.find? (fun x => decide (key x = k)) = none := by
        rw [List.find?_eq_none]
        intro y hy
        simp only [decide_eq_true_eq]
        intro e2
        have := h'.1 y hy
        rw [e, e2] at this
        exact bs_irr _ this
      simp only [hn, e, decide_true]
      split
      · simp [tot, key] at *; simp [e]
      · simp [tot]
    · simp only [e, decide_false]
      split
      · have : key (x.1, h x) = key x := rfl
        simp [tot, this, e]
      · simp [tot]
theorem find_none {k : Bs} {a : List Item} (h : a.find? (fun x => decide (key x = k)) = none) : k ∉ a.map key := by
  rw [List.find?_eq_none] at h
  intro hk
  obtain ⟨x, hx, e⟩ := List.mem_map.1 hk
  exact h x hx (by simpa using e)
theorem find_some {k : Bs} {a : List Item} {x : Item} (h : a.find? (fun x => decide (key x = k)) = some x) : x ∈ a ∧ key x = k := by
  exact ⟨List.mem_of_find?_eq_some h, by simpa using List.find?_some h⟩
/-- of each good: what is made of how many there are -/
theorem made_of {h : Item → Int} {a : List Item} (ha : M a) (g : Bs → Int → Int) (hg : ∀ x ∈ a, h x = g (key x) x.2) (h0 : ∀ k, g k 0 ≤ 0) (k : Bs) : tot k (made h a) = if 0 < g k (tot k a) then g k (tot k a) else 0 := by
  rw [made_tot h k a ha.sorted]
  cases hf : a.find? (fun x => decide (key x = k)) with
  | none =>
    have := h0 k
    rw [tot_out (find_none hf)]
    simp only
    rw [if_neg (by omega)]
  | some x =>
    obtain ⟨hx, rfl⟩ := find_some hf
    simp only
    rw [tot_mem ha.sorted hx, hg x hx]

theorem eachL_made (f : Int → Int → Int) (a b : List Item) : eachL f a b = made (fun x => f x.2 (ofSum x.1 b)) a := rfl
theorem meet_M {a b : List Item} (ha : M a) (_hb : M b) : M (eachL meetF a b) := by
  rw [eachL_made]
  refine made_M ha fun x hx => ?_
  have := ha.ok x hx
  unfold meetF
  omega
theorem rest_M {a b : List Item} (ha : M a) (hb : M b) : M (eachL restF a b) := by
  rw [eachL_made]
  refine made_M ha fun x hx => ?_
  have := ha.ok x hx
  have h1 := hb.nonneg x.1.data.toList
  have h2 := hb.le x.1.data.toList
  unfold restF
  rw [hb.of, wrap_small (by omega) (by omega)]
  omega
theorem meet_tot {a b : List Item} (ha : M a) (hb : M b) (k : Bs) : tot k (eachL meetF a b) = min (tot k a) (tot k b) := by
  rw [eachL_made, made_of ha (fun k n => min n (tot k b)) (fun x hx => by unfold meetF key; rw [hb.of]) (fun k => by have := hb.nonneg k; omega)]
  have := ha.nonneg k
  have := hb.nonneg k
  split <;> omega
theorem rest_tot {a b : List Item} (ha : M a) (hb : M b) (k : Bs) : tot k (eachL restF a b) = max 0 (tot k a - tot k b) := by
  rw [eachL_made, made_of ha (fun k n => n - tot k b) (fun x hx => by
    have h1 := hb.nonneg x.1.data.toList
    have h2 := hb.le x.1.data.toList
    have := ha.ok x hx
    unfold restF key; rw [hb.of, wrap_small (by omega) (by omega)]) (fun k => by have := hb.nonneg k; omega)]
  split <;> omega
theorem rest_nil {a b : List Item} (ha : M a) (hb : M b) : eachL restF b a = [] ↔ ∀ k, tot k b ≤ tot k a := by
  constructor
  · intro h k
    have := rest_tot hb ha k
    rw [h] at this
    simp only [tot] at this
    omega
  · intro h
    refine (rest_M hb ha).ext ⟨by simp, (fun x hx => by cases hx), List.Pairwise.nil⟩ fun k => ?_
    rw [rest_tot hb ha]
    have := h k
    simp only [tot]
    omega
theorem covers_iff {a b : List Item} (ha : M a) (hb : M b) : covers a b = true ↔ ∀ k, tot k b ≤ tot k a := by
  unfold covers both
  rw [(may_iff a).2 ha, (may_iff b).2 hb]
  simp only [Bool.and_self, if_true, Bool.true_and]
  rw [← rest_nil ha hb, beq_iff_eq, List.length_eq_zero_iff]
theorem covers_eq {a b : List Item} (ha : M a) (hb : M b) (p : Prop) [Decidable p] (h : p ↔ ∀ k, tot k b ≤ tot k a) : covers a b = decide p := by
  rw [Bool.eq_iff_iff, covers_iff ha hb, decide_eq_true_eq, h]

/-! sums of lists that may be -/
theorem M.okC {l : List Item} (h : M l) : l.all okC = true := by
  rw [List.all_eq_true]
  intro x hx
  unfold It.okC
  have := h.ok x hx
  rw [this.1, Bool.true_and, countOk_iff]
  omega
theorem over_iff {l : List Item} : over l = true ↔ ∃ k, 1099511627776 < tot k l := by
  unfold over
  rw [List.any_eq_true]
  constructor
  · rintro ⟨x, _, hd⟩
    exact ⟨key x, by simpa using hd⟩
  · rintro ⟨k, hk⟩
    obtain ⟨x, hx, rfl⟩ := List.mem_map.1 (tot_pos (k := k) (l := l) (by omega))
    exact ⟨x, hx, by simpa using hk⟩
theorem normL_of {L out : List Item} (h : IsNorm L out) : normL L = out := (isNorm_normL L).unique h
theorem norm_tot {L : List Item} (h : ∀ k, 0 ≤ tot k L) (k : Bs) : tot k (normL L) = tot k L := by
  have hn := isNorm_normL L
  by_cases hk : k ∈ (normL L).map key
  · obtain ⟨x, hx, rfl⟩ := List.mem_map.1 hk
    rw [tot_mem hn.sorted hx]
    exact ((hn.has x).1 hx).2.1
  · rw [tot_out hk]
    by_cases h0 : tot k L = 0
    · exact h0.symm
    · exfalso
      refine hk (List.mem_map.2 ⟨(⟨k.toArray⟩, tot k L), (hn.has _).2 ?_, key_mk _ _⟩)
      rw [key_mk]
      have := h k
      exact ⟨tot_pos h0, rfl, by simp only; omega⟩
theorem normL_M {L : List Item} (hg : ∀ x ∈ L, good x.1 = true) (ho : ∀ k, tot k L ≤ 1099511627776) (hl : (normL L).length ≤ 16) : M (normL L) := by
  have hn := isNorm_normL L
  refine ⟨hl, fun x hx => ?_, hn.sorted⟩
  obtain ⟨h1, h2, h3⟩ := (hn.has x).1 hx
  obtain ⟨y, hy, e⟩ := List.mem_map.1 h1
  have hg1 := hg y hy
  have e1 : y.1 = x.1 := by
    have h1 := congrArg (fun z : Item => z.1) (item_eta y)
    have h2 := congrArg (fun z : Item => z.1) (item_eta x)
    simp only at h1 h2
    rw [h1, h2, e]
  rw [e1] at hg1
  have := ho (key x)
  exact ⟨hg1, by omega, by omega⟩

/-- two lists together -/
theorem plus_cases {a b : List Item} (ha : M a) (hb : M b) :
    (plusOf a b).2 = 0 → M (plusOf a b).1 ∧ ∀ k, tot k (plusOf a b).1 = tot k a + tot k b := by
  intro h
  unfold plusOf at h ⊢
  rw [(may_iff a).2 ha, (may_iff b).2 hb] at h ⊢
  simp only [Bool.and_self, if_true] at h ⊢
  have hall : (a ++ b).all okC = true := by rw [List.all_append, ha.okC, hb.okC]; rfl
  have hnn : ∀ k, 0 ≤ tot k (a ++ b) := fun k => tot_nonneg k _ hall
  unfold normRes sumsCode at h ⊢
  simp only [hall, if_true] at h ⊢
  cases hov : over (a ++ b) with
  | true => rw [hov] at h; simp at h
  | false =>
    rw [hov] at h
    simp only [Bool.false_eq_true, if_false, if_true] at h ⊢
    by_cases hl : (normL (a ++ b)).length ≤ 16
    · rw [if_pos hl] at h ⊢
      refine ⟨normL_M (fun x hx => ?_) (tot_le hov) hl, fun k => ?_⟩
      · rcases List.mem_append.1 hx with hx | hx
        · exact (ha.ok x hx).1
        · exact (hb.ok x hx).1
      · simp only
        rw [norm_tot hnn, tot_append]
    · rw [if_neg hl] at h
      simp at h
theorem plus_ok {a b c : List Item} (ha : M a) (hb : M b) (hc : M c) (h : ∀ k, tot k a + tot k b = tot k c) : plusOf a b = (c, 0) := by
  unfold plusOf
  rw [(may_iff a).2 ha, (may_iff b).2 hb]
  simp only [Bool.and_self, if_true]
  have hall : (a ++ b).all okC = true := by rw [List.all_append, ha.okC, hb.okC]; rfl
  have hnn : ∀ k, 0 ≤ tot k (a ++ b) := fun k => tot_nonneg k _ hall
  have hov : over (a ++ b) = false := by
    cases hov : over (a ++ b) with
    | false => rfl
    | true =>
      obtain ⟨k, hk⟩ := over_iff.1 hov
      rw [tot_append, h k] at hk
      have := hc.le k
      omega
  have hn : normL (a ++ b) = c := by
    refine normL_of ⟨hc.sorted, fun x => ⟨fun hx => ?_, fun ⟨h1, h2, h3⟩ => ?_⟩⟩
    · have h1 := tot_mem hc.sorted hx
      have h2 := hc.ok x hx
      rw [← h, ← tot_append] at h1
      exact ⟨tot_pos (by omega), h1.symm, by omega⟩
    · rw [tot_append, h] at h2
      obtain ⟨y, hy, e⟩ := List.mem_map.1 (tot_pos (k := key x) (l := c) (by omega))
      have := tot_mem hc.sorted hy
      rw [e, ← h2] at this
      rw [key_item x y e.symm this]
      exact hy
  unfold normRes sumsCode
  simp only [hall, hov, hn, hc.len, if_true, Bool.false_eq_true, if_false]

/-! totals -/
def sumN : List Item → Int
  | [] => 0
  | x :: l => x.2 + sumN l
theorem totSum_foldl : ∀ (l : List Item) (t : Int), (∀ x ∈ l, 0 ≤ x.2 ∧ x.2 ≤ 1099511627776) → 0 ≤ t → t + l.length * 1099511627776 ≤ 9223372036854775807 → l.foldl totStep t = t + sumN l
  | [], t, _, _, _ => by simp [sumN]
  | x :: l, t, h, h0, h1 => by
    have hx := h x (by simp)
    simp only [List.length_cons] at h1
    rw [List.foldl_cons, show totStep t x = t + x.2 from wrap_small (by omega) (by omega), totSum_foldl l _ (fun y hy => h y (by simp [hy])) (by omega) (by omega)]
    simp only [sumN]
    omega
theorem M.sum {l : List Item} (h : M l) : totSum l = sumN l := by
  have := totSum_foldl l 0 (fun x hx => by have := h.ok x hx; omega) (Int.le_refl _) (by have := h.len; omega)
  unfold totSum
  omega
def sumK (l : List Item) : List Bs → Int
  | [] => 0
  | k :: r => tot k l + sumK l r
theorem sumK_nil : ∀ ks : List Bs, sumK [] ks = 0
  | [] => rfl
  | k :: r => by simp [sumK, tot, sumK_nil r]
theorem sumK_cons (x : Item) (l : List Item) : ∀ ks : List Bs, ks.Nodup → sumK (x :: l) ks = (if key x ∈ ks then x.2 else 0) + sumK l ks
  | [], _ => by simp [sumK]
  | k :: r, h => by
    have h' := List.nodup_cons.1 h
    simp only [sumK, sumK_cons x l r h'.2, tot, List.mem_cons]
    by_cases e : key x = k
    · have hn : key x ∉ r := by rw [e]; exact h'.1
      rw [if_pos e, if_neg hn, if_pos (.inl e)]
      omega
    · rw [if_neg e]
      by_cases hr : key x ∈ r
      · rw [if_pos hr, if_pos (.inr hr)]; omega
      · rw [if_neg hr, if_neg (by simp [e, hr])]; omega
theorem sumK_eq {ks : List Bs} (h : ks.Nodup) : ∀ l : List Item, (∀ x ∈ l, key x ∈ ks) → sumK l ks = sumN l
  | [], _ => by rw [sumK_nil]; rfl
  | x :: l, hk => by
    rw [sumK_cons x l ks h, if_pos (hk x (by simp)), sumK_eq h l fun y hy => hk y (by simp [hy])]
    rfl
theorem sumK_add {a b c : List Item} (h : ∀ k, tot k c = tot k a + tot k b) : ∀ ks : List Bs, sumK c ks = sumK a ks + sumK b ks
  | [] => rfl
  | k :: r => by simp only [sumK, h, sumK_add h r]; omega
theorem sumN_add {a b c : List Item} (h : ∀ k, tot k c = tot k a + tot k b) : sumN c = sumN a + sumN b := by
  have hn : (ksOf ((a ++ b ++ c).map key)).Nodup := by
    rw [List.nodup_iff_pairwise_ne]
    refine (ksOf_sorted _).imp fun {x y} h e => ?_
    rw [e] at h
    exact bs_irr _ h
  rw [← sumK_eq hn a fun x hx => (ksOf_mem _ _).2 (List.mem_map.2 ⟨x, by simp [hx], rfl⟩), ← sumK_eq hn b fun x hx => (ksOf_mem _ _).2 (List.mem_map.2 ⟨x, by simp [hx], rfl⟩),
    ← sumK_eq hn c fun x hx => (ksOf_mem _ _).2 (List.mem_map.2 ⟨x, by simp [hx], rfl⟩), sumK_add h]
theorem sumN_bounds : ∀ (l : List Item), (∀ x ∈ l, 0 ≤ x.2 ∧ x.2 ≤ 1099511627776) → 0 ≤ sumN l ∧ sumN l ≤ l.length * 1099511627776
  | [], _ => by simp [sumN]
  | x :: l, h => by
    have := sumN_bounds l fun y hy => h y (by simp [hy])
    have := h x (by simp)
    simp only [sumN, List.length_cons]
    omega
theorem M.bounds {l : List Item} (h : M l) : 0 ≤ sumN l ∧ sumN l ≤ 17592186044416 := by
  have := sumN_bounds l fun x hx => by have := h.ok x hx; omega
  have := h.len
  omega

/-! what the laws say, in plain words -/
theorem both_of {f : Int → Int → Int} {a b : List Item} (ha : M a) (hb : M b) : both f a b = eachL f a b := by
  unfold both
  rw [(may_iff a).2 ha, (may_iff b).2 hb]
  rfl
theorem parts_plus {a b : List Item} (ha : M a) (hb : M b) : plusOf (both meetF a b) (both restF a b) = (a, 0) := by
  rw [both_of ha hb, both_of ha hb]
  refine plus_ok (meet_M ha hb) (rest_M ha hb) ha fun k => ?_
  rw [meet_tot ha hb, rest_tot ha hb]
  have := ha.nonneg k
  omega
theorem parts_minus {a b : List Item} (ha : M a) (hb : M b) (h : (plusOf a b).2 = 0) :
    minusOf (plusOf a b).1 b = (a, 0) ∧ covers (plusOf a b).1 a = true ∧ covers (plusOf a b).1 b = true ∧ totSum (plusOf a b).1 = wrap64 (totSum a + totSum b) := by
  obtain ⟨hp, ht⟩ := plus_cases ha hb h
  generalize (plusOf a b).1 = p at *
  have c1 : covers p a = true := (covers_iff hp ha).2 fun k => by rw [ht]; have := hb.nonneg k; omega
  have c2 : covers p b = true := (covers_iff hp hb).2 fun k => by rw [ht]; have := ha.nonneg k; omega
  refine ⟨?_, c1, c2, ?_⟩
  · unfold minusOf
    rw [(may_iff p).2 hp, (may_iff b).2 hb, c2, both_of hp hb]
    simp only [Bool.and_self, if_true]
    have : eachL restF p b = a := (rest_M hp hb).ext ha fun k => by
      rw [rest_tot hp hb, ht]
      have := ha.nonneg k
      omega
    rw [this]
  · rw [hp.sum, ha.sum, hb.sum, sumN_add ht]
    have := ha.bounds
    have := hb.bounds
    rw [wrap_small (by omega) (by omega)]
theorem order_refl {a : List Item} (ha : M a) : covers a a = true := (covers_iff ha ha).2 fun _ => Int.le_refl _
theorem order_trans {a b c : List Item} (ha : M a) (hb : M b) (hc : M c) (h1 : covers a b = true) (h2 : covers b c = true) : covers a c = true :=
  (covers_iff ha hc).2 fun k => Int.le_trans ((covers_iff hb hc).1 h2 k) ((covers_iff ha hb).1 h1 k)
theorem order_anti {a b : List Item} (ha : M a) (hb : M b) (h1 : covers a b = true) (h2 : covers b a = true) : a = b :=
  ha.ext hb fun k => Int.le_antisymm ((covers_iff hb ha).1 h2 k) ((covers_iff ha hb).1 h1 k)
theorem order_meet {a b : List Item} (ha : M a) (hb : M b) : covers a (both meetF a b) = true ∧ covers b (both meetF a b) = true := by
  rw [both_of ha hb]
  refine ⟨(covers_iff ha (meet_M ha hb)).2 fun k => ?_, (covers_iff hb (meet_M ha hb)).2 fun k => ?_⟩ <;> rw [meet_tot ha hb] <;> omega
end It
end Go.Proofs.YtdbkkldgobkjcaaGreat

namespace Go.Proofs.YtdbkkldgobkjcaaGreat
open Go.RowKit
namespace Ce
open It

/-- a text of bytes -/
def bs (l : List UInt8) : ByteArray := ⟨l.toArray⟩
theorem bs_size (l : List UInt8) : (bs l).size = l.length := by simp [bs, ByteArray.size]
theorem bs_data (l : List UInt8) : (bs l).data.toList = l := rfl
theorem bs_of (s : ByteArray) : bs s.data.toList = s := by
  cases s; rfl
/-- what is left of a code; none: it is at fault -/
abbrev Tst := Option (List UInt8)
def tNum (least most : Int) : Tst → Int × Tst
  | none => (0, none)
  | some l => match firstC l with
    | some (n, k) => if n < least ∨ most < n then (0, none) else (n, some (l.drop k))
    | none => (0, none)
theorem tNum_none (least most : Int) : tNum least most none = (0, none) := rfl
theorem tNum_bad {least most : Int} {l : List UInt8} (h : firstC l = none) : tNum least most (some l) = (0, none) := by
  simp only [tNum, h]
theorem tNum_out {least most n : Int} {l : List UInt8} {k : Nat} (h : firstC l = some (n, k)) (h2 : n < least ∨ most < n) : tNum least most (some l) = (0, none) := by
  simp only [tNum, h]; exact if_pos h2
theorem tNum_in {least most n : Int} {l : List UInt8} {k : Nat} (h : firstC l = some (n, k)) (h2 : ¬ (n < least ∨ most < n)) : tNum least most (some l) = (n, some (l.drop k)) := by
  simp only [tNum, h]; exact if_neg h2
theorem tNum_zero {least most : Int} {s : Tst} (h : (tNum least most s).2 = none) : (tNum least most s).1 = 0 := by
  cases s with
  | none => rfl
  | some l =>
    cases hf : firstC l with
    | none => rw [tNum_bad hf]
    | some x =>
      obtain ⟨n, k⟩ := x
      by_cases h2 : n < least ∨ most < n
      · rw [tNum_out hf h2]
      · rw [tNum_in hf h2] at h; cases h
theorem tNum_some {least most n : Int} {s : Tst} {r : List UInt8} (h : tNum least most s = (n, some r)) : ∃ l, s = some l ∧ l = numC n ++ r ∧ least ≤ n ∧ n ≤ most := by
  cases s with
  | none => cases h
  | some l =>
    cases hf : firstC l with
    | none => rw [tNum_bad hf] at h; cases h
    | some x =>
      obtain ⟨m, k⟩ := x
      by_cases h2 : m < least ∨ most < m
      · rw [tNum_out hf h2] at h; cases h
      · rw [tNum_in hf h2] at h
        simp only [Prod.mk.injEq, Option.some.injEq] at h
        obtain ⟨rfl, rfl⟩ := h
        have := (firstC_some hf).1
        exact ⟨l, rfl, by rw [this, List.take_append_drop], by omega, by omega⟩
theorem tNum_range {least most : Int} {s : Tst} (h1 : least ≤ 0) (h2 : 0 ≤ most) : least ≤ (tNum least most s).1 ∧ (tNum least most s).1 ≤ most := by
  cases hs : tNum least most s with
  | mk n r =>
    cases r with
    | none => have := tNum_zero (least := least) (most := most) (s := s) (by rw [hs]); rw [hs] at this; simp only at this ⊢; omega
    | some r => obtain ⟨_, _, _, h3, h4⟩ := tNum_some hs; exact ⟨h3, h4⟩
theorem tNum_put {least most n : Int} (r : List UInt8) (h1 : -9223372036854775808 ≤ n) (h2 : n ≤ 9223372036854775807) (h3 : least ≤ n) (h4 : n ≤ most) : tNum least most (some (numC n ++ r)) = (n, some r) := by
  rw [tNum_in (firstC_numC h1 h2 r) (by omega)]
  simp
def tText (most : Int) (s : Tst) : List UInt8 × Tst :=
  match tNum 0 most s with
  | (n, some l) => if (l.length : Int) < n then ([], none) else (l.take n.toNat, some (l.drop n.toNat))
  | (_, none) => ([], none)
theorem tText_bad {most : Int} {s : Tst} (h : (tNum 0 most s).2 = none) : tText most s = ([], none) := by
  unfold tText
  cases hs : tNum 0 most s with
  | mk n r =>
    cases r with
    | none => rfl
    | some r => rw [hs] at h; cases h
theorem tText_long {most n : Int} {s : Tst} {l : List UInt8} (h : tNum 0 most s = (n, some l)) (h2 : (l.length : Int) < n) : tText most s = ([], none) := by
  unfold tText; rw [h]; exact if_pos h2
theorem tText_ok {most n : Int} {s : Tst} {l : List UInt8} (h : tNum 0 most s = (n, some l)) (h2 : ¬ (l.length : Int) < n) : tText most s = (l.take n.toNat, some (l.drop n.toNat)) := by
  unfold tText; rw [h]; exact if_neg h2
theorem tText_some {most : Int} {s : Tst} {x r : List UInt8} (h : tText most s = (x, some r)) : s = some (numC x.length ++ (x ++ r)) ∧ (x.length : Int) ≤ most := by
  cases hs : tNum 0 most s with
  | mk n o =>
    cases o with
    | none => rw [tText_bad (by rw [hs])] at h; cases h
    | some l =>
      by_cases h2 : (l.length : Int) < n
      · rw [tText_long hs h2] at h; cases h
      · rw [tText_ok hs h2] at h
        simp only [Prod.mk.injEq, Option.some.injEq] at h
        obtain ⟨rfl, rfl⟩ := h
        obtain ⟨q, rfl, rfl, h3, h4⟩ := tNum_some hs
        have e : ((l.take n.toNat).length : Int) = n := by rw [List.length_take]; omega
        rw [List.take_append_drop, e]
        exact ⟨rfl, h4⟩
theorem tText_none {most : Int} : tText most none = ([], none) := rfl
theorem tText_empty {most : Int} {s : Tst} (h : (tText most s).2 = none) : (tText most s).1 = [] := by
  cases hs : tText most s with
  | mk x o =>
    cases o with
    | some r => rw [hs] at h; cases h
    | none =>
      cases ht : tNum 0 most s with
      | mk n o =>
        cases o with
        | none => rw [tText_bad (by rw [ht])] at hs; cases hs; rfl
        | some l =>
          by_cases h2 : (l.length : Int) < n
          · rw [tText_long ht h2] at hs; cases hs; rfl
          · rw [tText_ok ht h2] at hs; cases hs
theorem tText_put {most : Int} (x r : List UInt8) (h1 : (x.length : Int) ≤ most) (h2 : (x.length : Int) ≤ 9223372036854775807) : tText most (some (numC x.length ++ (x ++ r))) = (x, some r) := by
  rw [tText_ok (tNum_put (x ++ r) (by omega) h2 (by omega) h1) (by simp; omega)]
  simp
/-- a taker that first lowers its bound to what is left -/
theorem tText_min {most : Int} {l : List UInt8} (_hm : 0 ≤ most) :
    (match tNum 0 (if most > (l.length : Int) then (l.length : Int) else most) (some l) with
      | (n, some r) => if (r.length : Int) < n then (([] : List UInt8), (none : Tst)) else (r.take n.toNat, some (r.drop n.toNat))
      | (_, none) => ([], none)) = tText most (some l) := by
  by_cases h : most > (l.length : Int)
  · rw [if_pos h]
    cases hf : firstC l with
    | none => rw [tNum_bad hf, tText_bad (by rw [tNum_bad hf])]
    | some x =>
      obtain ⟨n, k⟩ := x
      have hk := firstC_some hf
      by_cases h2 : n < 0 ∨ most < n
      · rw [tNum_out hf (by omega), tText_bad (by rw [tNum_out hf h2])]
      · by_cases h3 : (l.length : Int) < n
        · rw [tNum_out hf (by omega), tText_long (tNum_in hf h2) (by simp; omega)]
        · rw [tNum_in hf (by omega)]
          unfold tText
          rw [tNum_in hf h2]
  · rw [if_neg h]; rfl

/-- one good, and how many -/
abbrev Rst := List It.Item × Tst
def rRound (s : Rst) : Rst := (s.1 ++ [(bs (tText 16 s.2).1, (tNum 1 1099511627776 (tText 16 s.2).2).1)], (tNum 1 1099511627776 (tText 16 s.2).2).2)
def rIt (s : Rst) : Nat → Rst
  | 0 => s
  | k + 1 => rRound (rIt s k)
theorem rIt_len (s : Rst) (k : Nat) : (rIt s k).1.length = s.1.length + k := by
  induction k with
  | zero => rfl
  | succ k ih => simp only [rIt, rRound, List.length_append, ih, List.length_cons, List.length_nil]; omega
def readI (s : Tst) : List It.Item × Tst :=
  if may (rIt ([], (tNum 0 16 s).2) (tNum 0 16 s).1.toNat).1 then rIt ([], (tNum 0 16 s).2) (tNum 0 16 s).1.toNat else ([], none)
theorem may_pos {l : List It.Item} {x : It.Item} (hx : x ∈ l) (h : x.2 = 0) : may l = false := by
  cases hm : may l with
  | false => rfl
  | true =>
    have := (may_iff l).1 hm
    have := this.ok x hx
    omega
theorem rIt_none (s : Rst) (k : Nat) (hk : 0 < k) (h : (rIt s k).2 = none) : may (rIt s k).1 = false := by
  cases k with
  | zero => omega
  | succ k =>
    simp only [rIt, rRound] at h ⊢
    exact may_pos (List.mem_append_right _ (List.mem_singleton.2 rfl)) (tNum_zero h)
theorem rIt_stays (s : Rst) (j k : Nat) (hjk : j ≤ k) (h : (rIt s j).2 = none) : (rIt s k).2 = none := by
  induction k with
  | zero => obtain rfl : j = 0 := by omega
            exact h
  | succ k ih =>
    rcases Nat.lt_or_ge k j with h1 | h1
    · obtain rfl : j = k + 1 := by omega
      exact h
    · simp only [rIt, rRound]
      rw [ih h1, tText_none, tNum_none]
theorem rIt_fits (s : Rst) (hs : ∀ x ∈ s.1, x.1.size ≤ maxLen ∧ -9223372036854775808 ≤ x.2 ∧ x.2 ≤ 9223372036854775807) (k : Nat) : Fits (rIt s k).1 := by
  induction k with
  | zero => exact hs
  | succ k ih =>
    intro x hx
    simp only [rIt, rRound] at hx
    rcases List.mem_append.1 hx with h | h
    · exact ih x h
    · rw [List.mem_singleton.1 h]
      refine ⟨?_, ?_, ?_⟩
      · dsimp only
        rw [bs_size]
        cases ht : tText 16 (rIt s k).2 with
        | mk y o =>
          cases o with
          | none => have := tText_empty (by rw [ht] : (tText 16 (rIt s k).2).2 = none); rw [ht] at this; rw [this]; simp
          | some r => have := (tText_some ht).2; unfold maxLen; dsimp only; omega
      all_goals
        dsimp only
        cases hn : tNum 1 1099511627776 (tText 16 (rIt s k).2).2 with
        | mk n o =>
          cases o with
          | none => have := tNum_zero (by rw [hn] : (tNum 1 1099511627776 (tText 16 (rIt s k).2).2).2 = none); rw [hn] at this; dsimp only at this ⊢; omega
          | some r => obtain ⟨_, _, _, h1, h2⟩ := tNum_some hn; dsimp only; omega
/-- the document's reading: it stops at a fault -/
theorem readI_stop {s : Tst} {j : Nat} (hj : (j : Int) ≤ (tNum 0 16 s).1) (h : (j : Int) = (tNum 0 16 s).1 ∨ (rIt ([], (tNum 0 16 s).2) j).2 = none) :
    ((rIt ([], (tNum 0 16 s).2) j).2.isSome && may (rIt ([], (tNum 0 16 s).2) j).1) = (readI s).2.isSome ∧
    (((rIt ([], (tNum 0 16 s).2) j).2.isSome && may (rIt ([], (tNum 0 16 s).2) j).1) = true → readI s = rIt ([], (tNum 0 16 s).2) j) ∧
    (((rIt ([], (tNum 0 16 s).2) j).2.isSome && may (rIt ([], (tNum 0 16 s).2) j).1) = false → (readI s).1 = []) := by
  rcases h with h | h
  · have e : (tNum 0 16 s).1.toNat = j := by omega
    unfold readI
    rw [e]
    cases hm : may (rIt ([], (tNum 0 16 s).2) j).1 with
    | true =>
      rw [if_pos rfl]
      refine ⟨by simp, fun _ => rfl, fun h0 => ?_⟩
      simp only [Bool.and_true] at h0
      have hn : (rIt ([], (tNum 0 16 s).2) j).2 = none := by simpa using h0
      rcases Nat.eq_zero_or_pos j with h1 | h1
      · rw [h1]; rfl
      · rw [rIt_none _ _ h1 hn] at hm; cases hm
    | false => simp
  · have hz : (rIt ([], (tNum 0 16 s).2) (tNum 0 16 s).1.toNat).2 = none := rIt_stays _ j _ (by omega) h
    have hr : readI s = ([], none) := by
      unfold readI
      rcases Nat.eq_zero_or_pos (tNum 0 16 s).1.toNat with h1 | h1
      · rw [h1] at hz ⊢
        simp only [rIt] at hz ⊢
        rw [hz]
        exact ite_self _
      · rw [rIt_none _ _ h1 hz]; rfl
    rw [h, hr]
    simp
theorem readI_none {s : Tst} (h : (readI s).2 = none) : (readI s).1 = [] := by
  unfold readI at h ⊢
  cases hm : may (rIt ([], (tNum 0 16 s).2) (tNum 0 16 s).1.toNat).1 with
  | false => rfl
  | true =>
    rw [hm, if_pos rfl] at h
    rw [if_pos rfl]
    rcases Nat.eq_zero_or_pos (tNum 0 16 s).1.toNat with h1 | h1
    · rw [h1]; rfl
    · rw [rIt_none _ _ h1 h] at hm; cases hm
theorem readI_may {s : Tst} : may (readI s).1 = true := by
  unfold readI
  cases hm : may (rIt ([], (tNum 0 16 s).2) (tNum 0 16 s).1.toNat).1 with
  | false => rfl
  | true => rw [if_pos rfl]; exact hm

/-- the cells of goods -/
def cellsI (l : List It.Item) : List UInt8 := l.flatMap fun x => numC x.1.size ++ (x.1.data.toList ++ numC x.2)
def encI (l : List It.Item) : List UInt8 := numC l.length ++ cellsI l
theorem cellsI_snoc (l : List It.Item) (x : It.Item) : cellsI (l ++ [x]) = cellsI l ++ (numC x.1.size ++ (x.1.data.toList ++ numC x.2)) := by simp [cellsI]
theorem cellsI_cons (l : List It.Item) (x : It.Item) : cellsI (x :: l) = numC x.1.size ++ (x.1.data.toList ++ numC x.2) ++ cellsI l := by simp [cellsI]
theorem cellsI_len {l : List It.Item} (h : ∀ x ∈ l, x.1.size ≤ 16) : (cellsI l).length ≤ l.length * 34 := by
  induction l with
  | nil => simp [cellsI]
  | cons x r ih =>
    rw [cellsI_cons]
    have h1 := ih fun y hy => h y (List.mem_cons_of_mem _ hy)
    have h2 := h x (List.mem_cons_self ..)
    have h3 := (numC_len x.1.size).2
    have h4 := (numC_len x.2).2
    have h5 : x.1.data.toList.length = x.1.size := Array.length_toList
    simp only [List.length_append, List.length_cons]
    omega
theorem good_size {s : ByteArray} (h : good s = true) : 1 ≤ s.size ∧ s.size ≤ 16 := by
  unfold good at h
  simp only [Bool.and_eq_true, decide_eq_true_eq] at h
  omega
theorem encI_len {l : List It.Item} (h : may l = true) : (encI l).length ≤ 600 := by
  have hM := (may_iff l).1 h
  have h1 := cellsI_len (l := l) fun x hx => (good_size (hM.ok x hx).1).2
  have h2 := may_len h
  have h3 := (numC_len l.length).2
  unfold encI
  rw [List.length_append]
  omega
/-- what was put is taken again -/
theorem rIt_put {l : List It.Item} (h : may l = true) (r : List UInt8) : ∀ k, k ≤ l.length → rIt ([], some (cellsI l ++ r)) k = (l.take k, some (cellsI (l.drop k) ++ r))
  | 0, _ => rfl
  | k + 1, hk => by
    have hM := (may_iff l).1 h
    simp only [rIt]
    rw [rIt_put h r k (by omega)]
    have hx := hM.ok l[k] (List.getElem_mem _)
    have hg := good_size (hM.ok l[k] (List.getElem_mem _)).1
    have hl : l[k].1.data.toList.length = l[k].1.size := Array.length_toList
    unfold rRound
    dsimp only
    rw [List.drop_eq_getElem_cons (by omega), cellsI_cons]
    have e : numC l[k].1.size ++ (l[k].1.data.toList ++ numC l[k].2) ++ cellsI (l.drop (k + 1)) ++ r = numC (l[k].1.data.toList.length) ++ (l[k].1.data.toList ++ (numC l[k].2 ++ (cellsI (l.drop (k + 1)) ++ r))) := by
      rw [hl]; simp [List.append_assoc]
    rw [e, tText_put _ _ (by omega) (by omega)]
    dsimp only
    rw [tNum_put _ (by omega) (by omega) (by omega) (by omega)]
    dsimp only
    rw [bs_of, List.take_succ_eq_append_getElem (by omega)]
theorem readI_put {l : List It.Item} (h : may l = true) (r : List UInt8) : readI (some (encI l ++ r)) = (l, some r) := by
  have h2 := may_len h
  have e : tNum 0 16 (some (encI l ++ r)) = ((l.length : Int), some (cellsI l ++ r)) := by
    unfold encI
    rw [List.append_assoc]
    exact tNum_put _ (by omega) (by omega) (by omega) (by omega)
  unfold readI
  rw [e]
  dsimp only
  rw [Int.toNat_natCast, rIt_put h r _ (Nat.le_refl _), List.take_length, if_pos h, List.drop_length]
  rfl
/-- what was taken was put so -/
theorem rIt_took {l : List UInt8} : ∀ (k : Nat) (r : List UInt8), (rIt ([], some l) k).2 = some r → l = cellsI (rIt ([], some l) k).1 ++ r
  | 0, r, h => by cases h; rfl
  | k + 1, r, h => by
    simp only [rIt] at h ⊢
    unfold rRound at h ⊢
    dsimp only at h ⊢
    cases hn : tNum 1 1099511627776 (tText 16 (rIt ([], some l) k).2).2 with
    | mk n o =>
      rw [hn] at h
      dsimp only at h
      subst h
      obtain ⟨q, hq, hq2, _, _⟩ := tNum_some hn
      cases ht : tText 16 (rIt ([], some l) k).2 with
      | mk x o =>
        rw [ht] at hq
        dsimp only at hq
        subst hq
        have h3 := (tText_some ht).1
        have ih := rIt_took k _ h3
        refine ih.trans ?_
        rw [cellsI_snoc, hq2]
        dsimp only
        rw [bs_size, bs_data]
        simp [List.append_assoc]
theorem readI_took {b r : List UInt8} (h : (readI (some b)).2 = some r) : b = encI (readI (some b)).1 ++ r := by
  unfold readI at h ⊢
  cases hm : may (rIt ([], (tNum 0 16 (some b)).2) (tNum 0 16 (some b)).1.toNat).1 with
  | false => rw [hm] at h; cases h
  | true =>
    rw [hm, if_pos rfl] at h
    rw [if_pos rfl]
    cases hn : tNum 0 16 (some b) with
    | mk n o =>
      rw [hn] at h
      dsimp only at h ⊢
      cases o with
      | none =>
        rcases Nat.eq_zero_or_pos n.toNat with h1 | h1
        · rw [h1] at h; cases h
        · rw [rIt_stays ([], none) 0 n.toNat (by omega) rfl] at h; cases h
      | some l =>
        obtain ⟨q, hq, hq2, h3, h4⟩ := tNum_some hn
        cases hq
        have h5 := rIt_took _ _ h
        have h6 := rIt_len ([], some l) n.toNat
        simp only [List.length_nil, Nat.zero_add] at h6
        unfold encI
        rw [List.append_assoc, ← h5, h6, show ((n.toNat : Nat) : Int) = n by omega]
        exact hq2
end Ce
end Go.Proofs.YtdbkkldgobkjcaaGreat

namespace Go.Proofs.YtdbkkldgobkjcaaGreat
open Go.RowKit
namespace Ce

theorem BytesAt.all {w : World} {lo : Nat} {v : Value} {l : List UInt8} (h : w.ownsRow lo 5 1 v l.length (bytesV l)) : BytesAt w 0 w.heap.size v l := (BytesAt.of_own h).wide (Nat.zero_le _) (Nat.le_refl _)

set_option maxRecDepth 100000 in
set_option maxHeartbeats 1000000 in
theorem cloneb_calls (l : List UInt8) (v : Value) (w : World) (h : BytesAt w 0 w.heap.size v l) (hl : l.length ≤ 140737488351232) :
    Calls Tryz.prog 102 #[v] w fun e w' => (∃ v', e = .returned v' ∧ w'.ownsRow w.heap.size 5 1 v' l.length (bytesV l)) ∧ Below w.heap.size w w' := by
  obtain ⟨i0, hi0, hz0⟩ := Option.map_eq_some_iff.1 byte_info
  simp only [Prod.mk.injEq] at hz0
  obtain ⟨hz0, hz1, hz2⟩ := hz0
  have h0 := h
  have HL := Lib.hid hl
  clear hl
  obtain ⟨A, c, rfl, hc1, hc2⟩ := h.form
  unfold maxLen at hc2
  have heq := Lib.run_eql_slice_nil (P := Tryz.prog) w 65 5 A l.length c 0 0 Tryz.underlying65
  rcases A with _ | ad
  · have hl0 : l = [] := by
      rcases l with _ | ⟨x, r⟩
      · rfl
      · obtain ⟨b, o, e, _⟩ := h.cellAt (j := 0) (by simp)
        cases e
    subst hl0
    simp only [List.length_nil] at heq ⊢
    go_enter Tryz.func102, Tryz.ntmps102
    go_wp2
    go_ret
    exact ⟨⟨_, rfl, World.ownsRow_nil _ _ _ _⟩, Below.refl _ _⟩
  · go_enter Tryz.func102, Tryz.ntmps102
    go_wp2_with (at_builtin
                 refine wpList_append_sl _ rfl (.tmp 5) (.tmp 6) _ rfl w.heap.size 5 i0 _ 1 1 Tryz.underlying65 hi0 hz0 hz1 hz2 rfl (by omega) (.slice (some ⟨w.heap.size, 0, none⟩) 0 0) 0 [] rfl (World.ownsRow_lit w #[] 0 (Nat.le_refl _) (Nat.zero_le _) rfl) 0 w.heap.size _ l.length (bytesV l) rfl (Sl.below h0 ((Below.refl _ w).alloc (Nat.le_refl _) _)) (bytesV_one l) (by have := HL.out; unfold maxLen; omega) (by have := HL.out; omega) (by simp) ?_
                 intro v1 w1 hv1 hg1 hat1
                 have hB : Below w.heap.size w w1 := ((Below.refl _ w).alloc (Nat.le_refl _) (.cells #[] 5)).grown hg1 (by simp) (fun g hg => by cases hg; exact Nat.le_refl _)
                 clear hg1 hat1)
    have hown : w1.ownsRow w.heap.size 5 1 v1 l.length (bytesV l) := by simpa using hv1
    obtain ⟨A1, c1, rfl, -⟩ := (BytesAt.of_own hown).form
    clear hv1
    go_wp2
    go_ret
    exact ⟨⟨_, rfl, hown⟩, hB⟩

/-- the state of a maker behind one more cell -/
def mPut (s : List UInt8 × Bool) (c : List UInt8) : List UInt8 × Bool := if s.2 then s else if 262144 < s.1.length + c.length then (s.1, true) else (s.1 ++ c, false)
/-- a maker of the program's: its cells so far, and whether there were too many; Fr: blocks that are not its own -/
def Mk (w : World) (bm : Nat) (Fr : Nat → Prop) (s : List UInt8 × Bool) : Prop :=
  s.1.length ≤ 262144 ∧ ¬ Fr bm ∧ (∀ i, Fr i → i < w.heap.size) ∧
  ∃ v, Ob w bm 154 #[v, .bool s.2] ∧ w.ownsRow (bm + 1) 5 1 v s.1.length (bytesV s.1) ∧ (∀ g, v.ownBlock = some g → ¬ Fr g)
theorem Mk.lt {w : World} {bm : Nat} {Fr : Nat → Prop} {s : List UInt8 × Bool} (h : Mk w bm Fr s) : bm < w.heap.size := by
  obtain ⟨_, _, _, v, ho, _⟩ := h
  exact ho.lt
/-- what was made behind it is kept, too -/
theorem Mk.later {w w' : World} {bm : Nat} {Fr Fr' : Nat → Prop} {s : List UInt8 × Bool} (h : Mk w bm Fr s) (hb : Below w.heap.size w w') (hF : ∀ i, Fr' i → (Fr i ∨ w.heap.size ≤ i) ∧ i < w'.heap.size) : Mk w' bm Fr' s := by
  obtain ⟨h1, h2, h3, v, ho, hr, hg⟩ := h
  have hlt := ho.lt
  refine ⟨h1, fun hf => ?_, fun i hi => (hF i hi).2, v, ho.same hb, ownsRow_below hr hb, fun g hg' hf => ?_⟩
  · rcases (hF _ hf).1 with h | h
    · exact h2 h
    · omega
  · rcases (hF _ hf).1 with h | h
    · exact hg g hg' h
    · have := (hr.lt g hg').2; omega
theorem ownsRow_set {w : World} {lo b j : Nat} {e : TypeId} {size n : Nat} {v u : Value} {xs : List Value} (h : w.ownsRow lo e size v n xs) (hb : b < lo) : (w.setCell ⟨b, j, none⟩ u).ownsRow lo e size v n xs := by
  refine h.kept (grownBy_set w b j u) ?_
  cases hv : v.ownBlock with
  | none => simp
  | some g => have := (h.lt g hv).1; exact .inr (by simp; omega)
theorem new_calls (w : World) :
    Calls Tryz.prog 63 #[] w fun e w' => e = .returned (.pointer (some ⟨w.heap.size, 0, none⟩)) ∧ w.alloc (.cells #[.slice none 0 0, .bool false] 154) = w' := by
  go_enter Tryz.func63, Tryz.ntmps63
  go_wp2
  go_ret
  exact ⟨rfl, rfl⟩
theorem Mk.new (w : World) (Fr : Nat → Prop) (hF : ∀ i, Fr i → i < w.heap.size) : Mk (w.alloc (.cells #[.slice none 0 0, .bool false] 154)) w.heap.size Fr ([], false) :=
  ⟨by simp, fun h => by have := hF _ h; omega, fun i hi => by have := hF i hi; simp; omega, _, Ob.new _ _ _, World.ownsRow_nil _ _ _ _, fun g hg => by cases hg⟩

set_option maxRecDepth 100000 in
set_option maxHeartbeats 4000000 in
theorem put_calls (x : List UInt8) (l : List CatB.Part) (bk bm : Nat) (Fr : Nat → Prop) (s : List UInt8 × Bool) (w : World) (hM : Mk w bm Fr s) (hbk : bk < w.heap.size) (hll : l.length ≤ 100) (hcell : ∀ j (h : j < l.length), w.cell? ⟨bk, j, none⟩ = some (CatB.pv l[j]))
    (hp : CatB.Parts w w.heap.size l) (hx : CatB.all l = bytesV x) (hlx : CatB.lens l = x.length) (hlen : x.length ≤ 1000000) :
    Calls Tryz.prog 99 #[.pointer (some ⟨bm, 0, none⟩), .slice (some ⟨bk, 0, none⟩) l.length l.length] w fun e w' => e = .returned (.pointer (some ⟨bm, 0, none⟩)) ∧ Mk w' bm Fr (mPut s x) ∧ Kept Fr w w' := by
  obtain ⟨i0, hi0, hz0⟩ := Option.map_eq_some_iff.1 byte_info
  simp only [Prod.mk.injEq] at hz0
  obtain ⟨hz0, hz1, hz2⟩ := hz0
  have cC := Lib.hid (CatB.concat_calls l bk l.length w (Nat.le_refl _) (by unfold maxLen; omega) hbk hcell hp (by omega))
  rw [hx, hlx] at cC
  clear hcell hp hx hlx
  obtain ⟨S, long⟩ := s
  obtain ⟨hM1, hM2, hM3, v, hO, hR, hG⟩ := hM
  dsimp only at hM1 hO hR
  obtain ⟨A, c, rfl, hc1, hc2⟩ := (BytesAt.of_own hR).form
  have hFlt := Lib.hid hM3
  have hGr := Lib.hid hG
  clear hG hM3
  go_enter Tryz.func99, Tryz.ntmps99
  go_wp2_with fail
  refine cC.out.mono ?_
  rintro e W1 ⟨⟨cv, rfl, hcv⟩, hB⟩
  have hO1 := hO.same hB
  have hR1 := ownsRow_below hR hB
  have hbm := hO.lt
  have hK1 : Kept Fr w W1 := Kept.of_below hB hFlt.out
  have hs1 := hB.size
  have hcB := BytesAt.of_own hcv
  obtain ⟨A1, c1, rfl, hc3, -⟩ := hcB.form
  have g0 := hO1.cell (j := 0) rfl
  have g1 := hO1.cell (j := 1) rfl
  have f1 := hO1.frozen 1
  have hFlt1 := Lib.hid (fun i hi => Nat.lt_of_lt_of_le (hFlt.out i hi) hs1)
  cases long with
  | true =>
    have HS := Lib.hid (show mPut (S, true) x = (S, true) from rfl)
    have hO2 := hO1.set 1 (.bool true)
    have hR2 := ownsRow_set (b := bm) (j := 1) (u := .bool true) hR1 (by omega)
    have hg2 := grownBy_set W1 bm 1 (.bool true)
    go_wp2
    go_ret
    refine ⟨rfl, ?_, hK1.trans (Kept.of_grown hg2 (fun i hi => ⟨hFlt1.out i hi, fun e => hM2 (by cases e; exact hi)⟩))⟩
    rw [HS.out]
    exact ⟨hM1, hM2, fun i hi => Nat.lt_of_lt_of_le (hFlt1.out i hi) hg2.size, _, hO2, hR2, hGr.out⟩
  | false =>
    by_cases hbig : 262144 < S.length + x.length
    · have HS := Lib.hid (show mPut (S, false) x = (S, true) by unfold mPut; rw [if_neg (by simp)]; exact if_pos hbig)
      have hd : decide ((x.length : Int) > 262144 - (S.length : Int)) = true := by simp; omega
      have hO2 := hO1.set 1 (.bool true)
      have hR2 := ownsRow_set (b := bm) (j := 1) (u := .bool true) hR1 (by omega)
      have hg2 := grownBy_set W1 bm 1 (.bool true)
      clear hbig
      go_wp2
      go_ret
      refine ⟨rfl, ?_, hK1.trans (Kept.of_grown hg2 (fun i hi => ⟨hFlt1.out i hi, fun e => hM2 (by cases e; exact hi)⟩))⟩
      rw [HS.out]
      exact ⟨hM1, hM2, fun i hi => Nat.lt_of_lt_of_le (hFlt1.out i hi) hg2.size, _, hO2, hR2, hGr.out⟩
    · have HS := Lib.hid (show mPut (S, false) x = (S ++ x, false) by unfold mPut; rw [if_neg (by simp)]; exact if_neg hbig)
      have hd : decide ((x.length : Int) > 262144 - (S.length : Int)) = false := by simp; omega
      have hO2 := hO1.set 1 (.bool false)
      have hR2 := ownsRow_set (b := bm) (j := 1) (u := .bool false) hR1 (by omega)
      have hg2 := grownBy_set W1 bm 1 (.bool false)
      have hc2' : BytesAt (W1.setCell ⟨bm, 1, none⟩ (.bool false)) w.heap.size W1.heap.size (.slice A1 x.length c1) x := Sl.grown hcB hg2 (Nat.le_refl _) (fun k e => .inl (by cases e; exact hbm))
      have hKK := hK1.trans (Kept.of_grown hg2 (fun i hi => ⟨hFlt1.out i hi, fun e => hM2 (by cases e; exact hi)⟩))
      have hsz2 := hg2.size
      go_wp2_with (at_builtin
                   refine wpList_append_sl _ rfl (.tmp 37) (.tmp 38) _ rfl (bm + 1) 5 i0 _ 1 1 Tryz.underlying65 hi0 hz0 hz1 hz2 rfl (by omega) (.slice A S.length c) S.length (bytesV S) rfl hR2 w.heap.size W1.heap.size _ x.length (bytesV x) rfl hc2' (bytesV_one x) (by unfold maxLen; omega) (by omega) (by omega) ?_
                   intro v5 w5 hv5 hg5 hat5
                   obtain ⟨A5, c5, rfl, -⟩ := (Sl.of_own hv5).at_
                   have hne : some bm ≠ (Value.slice A S.length c).ownBlock := fun e => (by have := (hR2.lt bm e.symm).1; omega)
                   have hO5 := hO2.kept hg5 hne
                   have g5 := hO5.cell (j := 0) rfl
                   have f5 := hO5.frozen 0)
      have hO6 := hO5.set 0 (.slice A5 (S.length + x.length) c5)
      have hR6 := ownsRow_set (b := bm) (j := 0) (u := .slice A5 (S.length + x.length) c5) hv5 (by omega)
      have hg6 := grownBy_set w5 bm 0 (.slice A5 (S.length + x.length) c5)
      go_wp2
      go_ret
      have hlt2 : ∀ i, Fr i → i < (W1.setCell ⟨bm, 1, none⟩ (.bool false)).heap.size := fun i hi => Nat.lt_of_lt_of_le (hFlt1.out i hi) hsz2
      have hK5 := hKK.trans (Kept.of_grown hg5 (fun i hi => ⟨hlt2 i hi, fun e => hGr.out i e.symm hi⟩))
      have hlt5 : ∀ i, Fr i → i < w5.heap.size := fun i hi => Nat.lt_of_lt_of_le (hlt2 i hi) hg5.size
      refine ⟨rfl, ?_, hK5.trans (Kept.of_grown hg6 (fun i hi => ⟨hlt5 i hi, fun e => hM2 (by cases e; exact hi)⟩))⟩
      rw [HS.out]
      refine ⟨by simp; omega, hM2, fun i hi => Nat.lt_of_lt_of_le (hlt5 i hi) hg6.size, _, hO6, by rw [List.length_append, bytesV_append]; exact hR6, fun g hg hf => ?_⟩
      rcases hat5 with h | h
      · exact hGr.out g (h ▸ hg) hf
      · rw [h] at hg
        cases hg
        have := hlt2 _ hf
        omega
end Ce
end Go.Proofs.YtdbkkldgobkjcaaGreat

namespace Go.Proofs.YtdbkkldgobkjcaaGreat
open Go.RowKit
namespace Ce

theorem rowWide {w : World} {lo lo' : Nat} {e : TypeId} {size n : Nat} {v : Value} {xs : List Value} (h : w.ownsRow lo e size v n xs) (hl : lo' ≤ lo) : w.ownsRow lo' e size v n xs := by
  refine ⟨h.1, h.2.elim Or.inl fun hx => .inr ?_⟩
  revert hx
  rintro ⟨g, cap, cur, rfl, hbg, hg⟩
  exact ⟨g, cap, cur, rfl, Nat.le_trans hl hbg, hg⟩

set_option maxRecDepth 100000 in
set_option maxHeartbeats 4000000 in
theorem digits_calls (u : Int) (w : World) (h0 : 0 ≤ u) (h1 : u ≤ 18446744073709551615) :
    Calls Tryz.prog 126 #[.int .u64 u] w fun e w' => (∃ v, e = .returned v ∧ w'.ownsRow w.heap.size 5 1 v (dig u.toNat).length (bytesV (dig u.toNat))) ∧ Below w.heap.size w w' := by
  obtain ⟨i0, hi0, hz0⟩ := Option.map_eq_some_iff.1 byte_info
  simp only [Prod.mk.injEq] at hz0
  obtain ⟨hz0, hz1, hz2⟩ := hz0
  have H8 := dig_len8 u.toNat
  have HD := Lib.hid (show dig u.toNat = dig u.toNat from rfl)
  go_enter Tryz.func126, Tryz.ntmps126
  go_wp2
  go_loopw [0, 3] (fun x o wr => ∃ (y : Int) (l : List UInt8), 0 ≤ y ∧ y ≤ 18446744073709551615 ∧ x = .int .u64 y ∧ dig u.toNat = dig y.toNat ++ l ∧ wr.ownsRow w.heap.size 5 1 o l.length (bytesV l) ∧ Below w.heap.size w wr) (fun x _ _ => (intOf x).toNat)
  case atStart => exact ⟨u, [], h0, h1, rfl, by simp, World.ownsRow_nil _ _ _ _, Below.refl _ _⟩
  case round =>
    obtain ⟨y, l, hy0, hy1, rfl, hl, hown, hB⟩ := hrel
    have hll : l.length ≤ 8 := by
      have := congrArg List.length hl
      simp at this
      omega
    by_cases hpos : 0 < y
    · have hd : decide (y > 0) = true := by simpa using hpos
      have HL := Lib.hid (show dig u.toNat = dig (y / 256).toNat ++ (UInt8.ofNat (y.toNat % 256) :: l) by
        rw [hl, dig_pos (by omega) (by omega), show (y / 256).toNat = y.toNat / 256 by omega]
        simp)
      have HV := Lib.hid (show bytesV (UInt8.ofNat (y.toNat % 256) :: l) = [.int .u8 (y % 256)] ++ bytesV l by
        simp only [bytesV, List.map_cons, List.cons_append, List.nil_append]
        rw [← byte_of (n := y % 256) (by omega) (Nat.mod_lt _ (by omega))])
      clear hl
      have hownE : (wr.alloc (.cells #[.int .u8 (y % 256)] 5)).ownsRow w.heap.size 5 1 (.slice (some ⟨wr.heap.size, 0, none⟩) 1 1) 1 [.int .u8 (y % 256)] := World.ownsRow_lit wr #[.int .u8 (y % 256)] 1 hB.size (by unfold maxLen; omega) rfl
      have hl2 := Sl.below (Sl.of_own hown) (((Below.refl wr.heap.size wr)).alloc (Nat.le_refl _) (.cells #[.int .u8 (y % 256)] 5))
      go_wp2_with (at_builtin
                   refine wpList_append_sl _ rfl (.tmp 9) (.tmp 10) _ rfl w.heap.size 5 i0 _ 1 1 Tryz.underlying65 hi0 hz0 hz1 hz2 rfl (by omega) (.slice (some ⟨wr.heap.size, 0, none⟩) 1 1) 1 _ rfl hownE w.heap.size wr.heap.size _ l.length (bytesV l) rfl hl2 (bytesV_one l) (by unfold maxLen; omega) (by omega) (by have := hB.size; simp; omega) ?_
                   intro v1 w5 hv1 hg1 hat1)
      have hB4 : Below w.heap.size w w5 := (hB.alloc hB.size _).grown hg1 (by have := hB.size; simp; omega) (fun g hg => by cases hg; exact hB.size)
      clear hg1 hat1 hown hownE hl2
      go_roundw
      case rel => exact ⟨y / 256, _, by omega, by omega, rfl, HL.out, by rw [HV.out, List.length_cons, Nat.add_comm]; exact hv1, hB4⟩
      case measure => simp only [intOf]; omega
    · obtain rfl : y = 0 := by omega
      have HL := Lib.hid (show dig u.toNat = l by rw [hl]; rfl)
      clear hl
      obtain ⟨A5, c5, rfl, -⟩ := (BytesAt.of_own hown).form
      go_wp2
      go_ret
      exact ⟨⟨_, rfl, by rw [HL.out]; exact hown⟩, hB⟩

set_option maxRecDepth 100000 in
set_option maxHeartbeats 4000000 in
theorem refnum_own (n : Int) (w : World) (h0 : -9223372036854775808 ≤ n) (h1 : n ≤ 9223372036854775807) :
    Calls Tryz.prog 109 #[.int .i64 n] w fun e w' => (∃ v, e = .returned v ∧ w'.ownsRow w.heap.size 5 1 v (numC n).length (bytesV (numC n))) ∧ Below w.heap.size w w' := by
  obtain ⟨i0, hi0, hz0⟩ := Option.map_eq_some_iff.1 byte_info
  simp only [Prod.mk.injEq] at hz0
  obtain ⟨hz0, hz1, hz2⟩ := hz0
  by_cases hs : 0 ≤ n ∧ n < 128
  · have HS := Lib.hid (numC_small hs)
    obtain ⟨hs1, hs2⟩ := hs
    have hd1 : decide (n ≥ 0) = true := by simpa using hs1
    have hd2 : decide (n < 128) = true := by simpa using hs2
    go_enter Tryz.func109, Tryz.ntmps109
    go_wp2
    go_ret
    refine ⟨⟨_, rfl, ?_⟩, (Below.refl _ w).alloc (Nat.le_refl _) _⟩
    rw [HS.out]
    have := World.ownsRow_lit (size := 1) (base := w.heap.size) (e := 5) w #[.int .u8 n] 1 (Nat.le_refl _) (by unfold maxLen; omega) rfl
    simp only [bytesV, List.map_cons, List.map_nil, List.length_singleton]
    rw [← byte_of (n := n) (by omega) (by omega)]
    exact this
  · by_cases hn : n < 0
    · have hd1 : decide (n ≥ 0) = false := by simp; omega
      have hd3 : decide (n < 0) = true := by simpa using hn
      have hx : IntKind.u64.wrap n = n + 18446744073709551616 := by rw [IntKind.wrap_u64]; omega
      have HNC := Lib.hid (numC_neg hn)
      have h8 := dig_len8 (-1 - n).toNat
      go_enter Tryz.func109, Tryz.ntmps109
      go_wp2_with fail
      refine (digits_calls (n + 18446744073709551616) _ (by omega) (by omega)).mono ?_
      rintro e W1 ⟨⟨v1, rfl, -⟩, hb1⟩
      go_wp2_with fail
      refine (digits_calls (-1 - n) _ (by omega) (by omega)).mono ?_
      rintro e W2 ⟨⟨v2, rfl, hv2⟩, hb2⟩
      have hB := hb1.trans (hb2.mono hb1.size)
      clear hb1 hb2
      have hx2 := BytesAt.of_own hv2
      obtain ⟨A2, c2, rfl, -⟩ := hx2.form
      generalize dig (-1 - n).toNat = D at *
      have hownE : (W2.alloc (.cells #[.int .u8 (144 + (D.length : Int))] 5)).ownsRow W2.heap.size 5 1 (.slice (some ⟨W2.heap.size, 0, none⟩) 1 1) 1 [.int .u8 (144 + (D.length : Int))] := World.ownsRow_lit W2 #[.int .u8 (144 + (D.length : Int))] 1 (Nat.le_refl _) (by unfold maxLen; omega) rfl
      have hl2 := Sl.below hx2 ((Below.refl W2.heap.size W2).alloc (Nat.le_refl _) (.cells #[.int .u8 (144 + (D.length : Int))] 5))
      have HV := Lib.hid (show bytesV (numC n) = [.int .u8 (144 + (D.length : Int))] ++ bytesV D by
        rw [HNC.out]
        simp only [bytesV, List.map_cons, List.cons_append, List.nil_append]
        rw [← byte_of (n := 144 + (D.length : Int)) (by omega) (by omega)])
      have HN := Lib.hid (show (numC n).length = 1 + D.length by rw [HNC.out, List.length_cons, Nat.add_comm])
      clear hv2 hx2 HNC
      go_wp2_with (at_builtin
                   refine wpList_append_sl _ rfl (.tmp 28) (.tmp 29) _ rfl W2.heap.size 5 i0 _ 1 1 Tryz.underlying65 hi0 hz0 hz1 hz2 rfl (by omega) (.slice (some ⟨W2.heap.size, 0, none⟩) 1 1) 1 _ rfl hownE W1.heap.size W2.heap.size _ D.length (bytesV D) rfl hl2 (bytesV_one D) (by unfold maxLen; omega) (by omega) (by simp) ?_
                   intro v5 w5 hv5 hg5 hat5)
      have hB4 : Below W2.heap.size W2 w5 := ((Below.refl _ W2).alloc (Nat.le_refl _) (.cells #[.int .u8 (144 + (D.length : Int))] 5)).grown hg5 (by simp) (fun g hg => by cases hg; exact Nat.le_refl _)
      clear hg5 hat5 hownE hl2
      have hx5 : w5.ownsRow w.heap.size 5 1 v5 (numC n).length (bytesV (numC n)) := by
        rw [← HV.out, ← HN.out] at hv5
        exact rowWide hv5 hB.size
      obtain ⟨A5, c5, rfl, -⟩ := (BytesAt.of_own hx5).form
      go_wp2
      go_ret
      exact ⟨⟨_, rfl, hx5⟩, hB.trans (hB4.mono hB.size)⟩
    · have hn2 : 128 ≤ n := by omega
      have hd1 : decide (n ≥ 0) = true := by simp; omega
      have hd2 : decide (n < 128) = false := by simp; omega
      have hd3 : decide (n < 0) = false := by simp; omega
      have HNC := Lib.hid (numC_big hn2)
      have h8 := dig_len8 n.toNat
      go_enter Tryz.func109, Tryz.ntmps109
      go_wp2_with fail
      refine (digits_calls n _ (by omega) (by omega)).mono ?_
      rintro e W2 ⟨⟨v2, rfl, hv2⟩, hB⟩
      have hx2 := BytesAt.of_own hv2
      obtain ⟨A2, c2, rfl, -⟩ := hx2.form
      generalize dig (n).toNat = D at *
      have hownE : (W2.alloc (.cells #[.int .u8 (128 + (D.length : Int))] 5)).ownsRow W2.heap.size 5 1 (.slice (some ⟨W2.heap.size, 0, none⟩) 1 1) 1 [.int .u8 (128 + (D.length : Int))] := World.ownsRow_lit W2 #[.int .u8 (128 + (D.length : Int))] 1 (Nat.le_refl _) (by unfold maxLen; omega) rfl
      have hl2 := Sl.below hx2 ((Below.refl W2.heap.size W2).alloc (Nat.le_refl _) (.cells #[.int .u8 (128 + (D.length : Int))] 5))
      have HV := Lib.hid (show bytesV (numC n) = [.int .u8 (128 + (D.length : Int))] ++ bytesV D by
        rw [HNC.out]
        simp only [bytesV, List.map_cons, List.cons_append, List.nil_append]
        rw [← byte_of (n := 128 + (D.length : Int)) (by omega) (by omega)])
      have HN := Lib.hid (show (numC n).length = 1 + D.length by rw [HNC.out, List.length_cons, Nat.add_comm])
      clear hv2 hx2 HNC
      go_wp2_with (at_builtin
                   refine wpList_append_sl _ rfl (.tmp 28) (.tmp 29) _ rfl W2.heap.size 5 i0 _ 1 1 Tryz.underlying65 hi0 hz0 hz1 hz2 rfl (by omega) (.slice (some ⟨W2.heap.size, 0, none⟩) 1 1) 1 _ rfl hownE w.heap.size W2.heap.size _ D.length (bytesV D) rfl hl2 (bytesV_one D) (by unfold maxLen; omega) (by omega) (by simp) ?_
                   intro v5 w5 hv5 hg5 hat5)
      have hB4 : Below W2.heap.size W2 w5 := ((Below.refl _ W2).alloc (Nat.le_refl _) (.cells #[.int .u8 (128 + (D.length : Int))] 5)).grown hg5 (by simp) (fun g hg => by cases hg; exact Nat.le_refl _)
      clear hg5 hat5 hownE hl2
      have hx5 : w5.ownsRow w.heap.size 5 1 v5 (numC n).length (bytesV (numC n)) := by
        rw [← HV.out, ← HN.out] at hv5
        exact rowWide hv5 hB.size
      obtain ⟨A5, c5, rfl, -⟩ := (BytesAt.of_own hx5).form
      go_wp2
      go_ret
      exact ⟨⟨_, rfl, hx5⟩, hB.trans (hB4.mono hB.size)⟩
theorem refnum_calls (n : Int) (w : World) (h0 : -9223372036854775808 ≤ n) (h1 : n ≤ 9223372036854775807) :
    Calls Tryz.prog 109 #[.int .i64 n] w fun e w' => (∃ v, e = .returned v ∧ BytesAt w' w.heap.size w'.heap.size v (numC n)) ∧ Below w.heap.size w w' :=
  (refnum_own n w h0 h1).mono fun _ _ ⟨⟨v, e, h⟩, hB⟩ => ⟨⟨v, e, BytesAt.of_own h⟩, hB⟩
end Ce
end Go.Proofs.YtdbkkldgobkjcaaGreat

namespace Go.Proofs.YtdbkkldgobkjcaaGreat
open Go.RowKit
namespace Ce

theorem run_string_at {P : Program} {w : World} {src dst e : TypeId} (hs : P.underlying src = some (.slice e)) (he : P.underlying e = some (.int .u8)) (hd : P.underlying dst = some .string) {lo B n c : Nat} {A : Option Addr} {l : List UInt8}
    (h : BytesAt w lo B (.slice A n c) l) : (convert src dst (.slice A n c)).run P w = .ok (.string ⟨l.toArray⟩) w := by
  obtain ⟨A', c', e', h1, h2, h3⟩ := h.at_
  have hl : n = l.length := by cases e'; rfl
  cases e'
  match l, hl with
  | [], _ =>
    rw [run_convert_bytes_string w src dst e A _ c hs he hd]
    cases A <;> simp [Conv.bytesToString] <;> rfl
  | x :: r, _ =>
    obtain ⟨b, o, rfl, _, _, hc⟩ := h3 (by simp)
    refine run_convert_bytes_back w src dst e ⟨b, o, none⟩ c (x :: r) hs he hd fun j hj => ?_
    have e1 : (⟨b, o, none⟩ : Addr).add j = ⟨b, o + j, none⟩ := by unfold Addr.add; split <;> simp_all
    rw [e1, hc j (by omega)]
    unfold bytesV
    rw [List.getElem?_map, List.getElem?_eq_getElem hj]
    rfl
theorem or_byte {u : Nat} {c : UInt8} (hu : u < 72057594037927936) : bits .or .u64 ((u : Int) * 256) (c.toNat : Int) = ((u * 256 + c.toNat : Nat) : Int) := by
  have hc := c.toNat_lt
  have e : (u : Int) * 256 = ((u * 256 : Nat) : Int) := by omega
  rw [e, bits_or_u64_nat _ _ (by omega) (by omega)]
  congr 1
  have := Nat.two_pow_add_eq_or_of_lt (i := 8) (b := c.toNat) (by omega) u
  rw [show (2 : Nat) ^ 8 = 256 by rfl] at this
  rw [Nat.mul_comm u 256]
  exact this.symm

theorem BytesAt.upTo {w : World} {lo B n k c : Nat} {A : Option Addr} {l : List UInt8} (h : BytesAt w lo B (.slice A n c) l) (hk : k ≤ l.length) : BytesAt w lo B (.slice A k c) (l.take k) := by
  have hn : n = l.length := by
    obtain ⟨A', c', e, _⟩ := h.at_
    cases e; rfl
  subst hn
  have := Sl.upTo (k := k) h hk
  unfold BytesAt
  have e : (l.take k).length = k := by rw [List.length_take]; omega
  rw [e, show bytesV (l.take k) = (bytesV l).take (k * 1) by simp [bytesV, List.map_take]]
  exact this
def firstR (b : List UInt8) : Int × Int × Int := match firstC b with | some (n, k) => (n, (k : Int), 0) | none => (0, 0, 10)

set_option maxRecDepth 100000 in
set_option maxHeartbeats 8000000 in
theorem first_calls (b : List UInt8) (v : Value) (w : World) (hI : BytesAt w 0 w.heap.size v b) :
    Calls Tryz.prog 104 #[v] w fun e w' => e = .returned (.tuple #[.int .i64 (firstR b).1, .int .i64 (firstR b).2.1, .int .i64 (firstR b).2.2]) ∧ Below w.heap.size w w' := by
  obtain ⟨A, c, rfl, hc1, hc2⟩ := hI.form
  unfold maxLen at hc2
  match b with
  | [] =>
    have hR : firstR [] = (0, 0, 10) := rfl
    rw [hR]
    clear hR
    simp only [List.length_nil]
    go_enter Tryz.func104, Tryz.ntmps104
    go_wp2
    go_ret3
    exact ⟨rfl, Below.refl _ _⟩
  | h :: t =>
    have hlen : (h :: t).length = t.length + 1 := by simp
    obtain ⟨p, o, rfl, -, hp, g0⟩ := hI.cellAt (j := 0) (by simp)
    have hg : ∀ j (hj : j < t.length), w.cell? ⟨p, o + 1 + j, none⟩ = some (.int .u8 ((t[j]).toNat : Int)) := fun j hj => by
      obtain ⟨p', o', e, -, -, g1⟩ := hI.cellAt (j := j + 1) (by simp; omega)
      cases e
      rw [List.getElem_cons_succ] at g1
      rw [← g1]
      congr 2
      omega
    have HG := Lib.hid hg
    clear hg
    simp only [List.getElem_cons_zero, Nat.add_zero] at g0
    rw [hlen] at hI hc1 ⊢
    clear hlen
    have hlz : (((t.length + 1 : Nat) : Int) == 0) = false := by simp; omega
    have hl1 : 0 < t.length + 1 := by omega
    have hh := h.toNat_lt
    by_cases h1 : h.toNat < 128
    · have HR := Lib.hid (show firstR (h :: t) = ((h.toNat : Int), 1, 0) by unfold firstR; rw [firstC_cons, if_pos h1]; rfl)
      have hd : decide ((h.toNat : Int) < 128) = true := by simp; omega
      clear h1
      go_enter Tryz.func104, Tryz.ntmps104
      go_wp2
      go_ret3
      rw [HR.out]
      exact ⟨rfl, Below.refl _ _⟩
    · have hd : decide ((h.toNat : Int) < 128) = false := by simp; omega
      by_cases h2 : 144 ≤ h.toNat
      · have hd2 : decide ((h.toNat : Int) ≥ 144) = true := by simp; omega
        obtain ⟨sz, hsz⟩ : ∃ sz : Nat, (h.toNat : Int) - 144 = (sz : Int) := ⟨h.toNat - 144, by omega⟩
        have hS : sizeOf_ h = sz := by unfold sizeOf_; rw [if_pos h2]; omega
        have hV : valOf h (t.take sz) = toI (flip (be (t.take sz))) := by unfold valOf; rw [if_pos h2]
        clear h2
        by_cases hbig : 8 < sz ∨ t.length < sz
        · have HR := Lib.hid (show firstR (h :: t) = (0, 0, 10) by unfold firstR; rw [firstC_cons, if_neg h1, hS, if_pos hbig])
          clear h1 hS hV
          have hcs : decide ((sz : Int) > 8) = true ∨ (decide ((sz : Int) > 8) = false ∧ decide ((sz : Int) ≥ (t.length : Int) + 1) = true) := by
            by_cases h8 : 8 < sz
            · exact .inl (by simp; omega)
            · exact .inr ⟨by simp; omega, by simp; omega⟩
          clear hbig
          rcases hcs with h3 | ⟨h3, h4⟩
          all_goals
            go_enter Tryz.func104, Tryz.ntmps104
            go_wp2
            go_ret3
            rw [HR.out]
            exact ⟨rfl, Below.refl _ _⟩
        · have h8 : sz ≤ 8 := by omega
          have hst : sz ≤ t.length := by omega
          have HR := Lib.hid (show firstR (h :: t) = if numC (toI (flip (be (t.take sz)))) = h :: t.take sz then (toI (flip (be (t.take sz))), ((1 + sz : Nat) : Int), 0) else (0, 0, 10) by
            unfold firstR; rw [firstC_cons, if_neg h1, hS, if_neg hbig, hV]
            by_cases hq : numC (toI (flip (be (t.take sz)))) = h :: t.take sz
            · rw [if_pos hq, if_pos hq]
            · rw [if_neg hq, if_neg hq])
          clear h1 hS hV hbig
          have hdb : decide ((sz : Int) > 8) = false := by simp; omega
          have hdc : decide ((sz : Int) ≥ (t.length : Int) + 1) = false := by simp; omega
          have k1 : (1 : Int) ≤ 1 + (sz : Int) := by omega
          have k2 : 1 + (sz : Int) ≤ (c : Int) := by omega
          by_cases hcc : c = 1
          all_goals
            go_enter Tryz.func104, Tryz.ntmps104
            go_wp2
            go_loop [8, 10, 41] (fun u _ i => ∃ j : Nat, j ≤ sz ∧ i = .int .i64 j ∧ u = .int .u64 (be (t.take j))) (fun _ _ i => sz - (intOf i).toNat)
            case atStart => exact ⟨0, by omega, rfl, rfl⟩
            case round =>
              obtain ⟨j, hj, rfl, rfl⟩ := hrel
              by_cases hjs : j < sz
              · have hcell := HG.out j (by omega)
                have hbl := be_lt _ (t.take j) rfl
                have hlj : (t.take j).length = j := by rw [List.length_take]; omega
                rw [hlj] at hbl
                have hpow : 256 ^ j ≤ 256 ^ 7 := Nat.pow_le_pow_right (by omega) (by omega)
                have hub : be (t.take j) < 72057594037927936 := Nat.lt_of_lt_of_le hbl hpow
                clear hpow hbl hlj
                have hor := or_byte (c := t[j]) hub
                have hqq : (t[j]).toNat < 256 := (t[j]).toNat_lt
                have HS := Lib.hid (show be (t.take (j + 1)) = be (t.take j) * 256 + (t[j]).toNat by rw [List.take_succ_eq_append_getElem (by omega), be_snoc])
                generalize be (t.take j) = u at *
                have hu0 : (0 : Int) ≤ (u : Int) := by omega
                have hu1 : (u : Int) < 72057594037927936 := by omega
                clear hub
                first
                | (exfalso; omega)
                | (generalize (t[j]).toNat = q at *
                   have hq0 : (0 : Int) ≤ (q : Int) := by omega
                   have hq1 : (q : Int) < 256 := by omega
                   go_wp2
                   go_round
                   case rel => exact ⟨j + 1, by omega, by go_num, by rw [HS.out, Int.natCast_add, Int.natCast_mul]; rfl⟩
                   case measure => simp [intOf]; omega)
              · obtain rfl : j = sz := by omega
                have hub := be_take_lt t h8
                have hx : bits .xor .u64 ((be (t.take j) : Nat) : Int) 18446744073709551615 = ((flip (be (t.take j)) : Nat) : Int) := by
                  have := bits_xor_u64_nat (be (t.take j)) 18446744073709551615 hub (by omega)
                  rw [Nat.xor_comm, show (18446744073709551615 : Nat) = 2 ^ 64 - 1 by rfl, Lib.xor_ones64 _ (by omega)] at this
                  exact this
                have hfl : flip (be (t.take j)) < 18446744073709551616 := by unfold flip; omega
                generalize flip (be (t.take j)) = U at *
                have hdj : decide ((j : Int) < (j : Int)) = false := by simp
                clear HG
                have hN := toI_range hfl
                have hpre := fun (W : World) (hW : Below w.heap.size w W) => (hI.mono hW hW.size).upTo (k := 1 + j) (by simp; omega)
                have htk : (h :: t).take (1 + j) = h :: t.take j := by rw [Nat.add_comm, List.take_succ_cons]
                rw [htk] at hpre
                have HPRE := Lib.hid hpre
                clear hpre htk
                have hw64 : wrap64 (U : Int) = toI U := by unfold wrap64 toI; split <;> omega
                have HW := Lib.hid hw64
                clear hw64
                go_wp2_with fail
                rw [HW.out]
                clear HW hx hfl
                generalize toI U = N at *
                obtain ⟨m, hm⟩ : ∃ m : Nat, m = 1 + j := ⟨_, rfl⟩
                have hsum : IntKind.i64.wrap (1 + (j : Int)) = (m : Int) := (IntWalk.i64_in _ (by omega)).trans (by omega)
                have k3 : (0 : Int) ≤ (m : Int) := by omega
                have k4 : (m : Int) ≤ (c : Int) := by omega
                have k5 : (m : Int) ≤ ((t.length + 1 : Nat) : Int) := by omega
                have k6 : ((t.length + 1 : Nat) : Int) ≤ (c : Int) := by omega
                try rw [hcc] at k4 k6
                have HM1 := Lib.hid hm
                rw [← hm] at HPRE
                clear hm
                have hdrew : Below w.heap.size w w.drew := (Below.refl _ w).drew
                have hc0 : (convert 65 9 (.slice (some ⟨p, o, none⟩) m c)).run Tryz.prog w.drew = .ok (.string ⟨(h :: t.take j).toArray⟩) w.drew := run_string_at Tryz.underlying65 Tryz.underlying5 Tryz.underlying9 (HPRE.out _ hdrew)
                try rw [hcc] at hc0
                by_cases hq : numC N = h :: t.take j
                · have HR2 := Lib.hid (show firstR (h :: t) = (N, ((1 + j : Nat) : Int), 0) by rw [HR.out, if_pos hq])
                  have hlq : (h :: t.take j).length = j + 1 := by rw [List.length_cons, List.length_take]; omega
                  go_region_with (go_at_call 100; refine (num_calls N _ hN.1 hN.2).mono ?_; rintro e W1 ⟨⟨v1, rfl, hv1⟩, hb1⟩; (rw [hq] at hv1); obtain ⟨A1, c1, rfl, -⟩ := hv1.form; (rw [hlq] at hv1); have hB1 := hdrew.trans (hb1.mono hdrew.size); have hc1' := run_string_at (dst := 9) Tryz.underlying65 Tryz.underlying5 Tryz.underlying9 hv1; have hc2' := run_string_at (dst := 9) Tryz.underlying65 Tryz.underlying5 Tryz.underlying9 (HPRE.out _ hB1); (try rw [hcc] at hc2'))
                  all_goals
                    clear hsum
                    go_wp2
                    go_ret3
                    rw [HR2.out]
                    exact ⟨rfl, hB1⟩
                · have HR2 := Lib.hid (show firstR (h :: t) = (0, 0, 10) by rw [HR.out, if_neg hq])
                  obtain ⟨s1, hs1⟩ : ∃ s1 : ByteArray, s1 = ⟨(numC N).toArray⟩ := ⟨_, rfl⟩
                  obtain ⟨s2, hs2⟩ : ∃ s2 : ByteArray, s2 = ⟨(h :: t.take j).toArray⟩ := ⟨_, rfl⟩
                  have hne : ¬ s1.toList = s2.toList := by
                    rw [ByteArray.toList_eq, ByteArray.toList_eq, hs1, hs2]
                    exact hq
                  have hnb : (s1.toList == s2.toList) = false := by simpa using hne
                  rw [← hs2] at hc0
                  have HS1 := Lib.hid hs1
                  have HS2 := Lib.hid hs2
                  clear hs1 hs2 hq
                  go_region_with (go_at_call 100; refine (num_calls N _ hN.1 hN.2).mono ?_; rintro e W1 ⟨⟨v1, rfl, hv1⟩, hb1⟩; obtain ⟨A1, c1, rfl, -⟩ := hv1.form; have hB1 := hdrew.trans (hb1.mono hdrew.size); have hc1' := run_string_at (dst := 9) Tryz.underlying65 Tryz.underlying5 Tryz.underlying9 hv1; have hc2' := run_string_at (dst := 9) Tryz.underlying65 Tryz.underlying5 Tryz.underlying9 (HPRE.out _ hB1); (rw [← HS1.out] at hc1'); (rw [← HS2.out] at hc2'); (try rw [hcc] at hc2'))
                  all_goals
                    clear hsum
                    go_wp2
                    go_ret3
                    rw [HR2.out]
                    exact ⟨rfl, hB1⟩
      · have hd2 : decide ((h.toNat : Int) ≥ 144) = false := by simp; omega
        obtain ⟨sz, hsz⟩ : ∃ sz : Nat, (h.toNat : Int) - 128 = (sz : Int) := ⟨h.toNat - 128, by omega⟩
        have hS : sizeOf_ h = sz := by unfold sizeOf_; rw [if_neg h2]; omega
        have hV : valOf h (t.take sz) = toI (be (t.take sz)) := by unfold valOf; rw [if_neg h2]
        clear h2
        by_cases hbig : 8 < sz ∨ t.length < sz
        · have HR := Lib.hid (show firstR (h :: t) = (0, 0, 10) by unfold firstR; rw [firstC_cons, if_neg h1, hS, if_pos hbig])
          clear h1 hS hV
          have hcs : decide ((sz : Int) > 8) = true ∨ (decide ((sz : Int) > 8) = false ∧ decide ((sz : Int) ≥ (t.length : Int) + 1) = true) := by
            by_cases h8 : 8 < sz
            · exact .inl (by simp; omega)
            · exact .inr ⟨by simp; omega, by simp; omega⟩
          clear hbig
          rcases hcs with h3 | ⟨h3, h4⟩
          all_goals
            go_enter Tryz.func104, Tryz.ntmps104
            go_wp2
            go_ret3
            rw [HR.out]
            exact ⟨rfl, Below.refl _ _⟩
        · have h8 : sz ≤ 8 := by omega
          have hst : sz ≤ t.length := by omega
          have HR := Lib.hid (show firstR (h :: t) = if numC (toI (be (t.take sz))) = h :: t.take sz then (toI (be (t.take sz)), ((1 + sz : Nat) : Int), 0) else (0, 0, 10) by
            unfold firstR; rw [firstC_cons, if_neg h1, hS, if_neg hbig, hV]
            by_cases hq : numC (toI (be (t.take sz))) = h :: t.take sz
            · rw [if_pos hq, if_pos hq]
            · rw [if_neg hq, if_neg hq])
          clear h1 hS hV hbig
          have hdb : decide ((sz : Int) > 8) = false := by simp; omega
          have hdc : decide ((sz : Int) ≥ (t.length : Int) + 1) = false := by simp; omega
          have k1 : (1 : Int) ≤ 1 + (sz : Int) := by omega
          have k2 : 1 + (sz : Int) ≤ (c : Int) := by omega
          by_cases hcc : c = 1
          all_goals
            go_enter Tryz.func104, Tryz.ntmps104
            go_wp2
            go_loop [8, 10, 41] (fun u _ i => ∃ j : Nat, j ≤ sz ∧ i = .int .i64 j ∧ u = .int .u64 (be (t.take j))) (fun _ _ i => sz - (intOf i).toNat)
            case atStart => exact ⟨0, by omega, rfl, rfl⟩
            case round =>
              obtain ⟨j, hj, rfl, rfl⟩ := hrel
              by_cases hjs : j < sz
              · have hcell := HG.out j (by omega)
                have hbl := be_lt _ (t.take j) rfl
                have hlj : (t.take j).length = j := by rw [List.length_take]; omega
                rw [hlj] at hbl
                have hpow : 256 ^ j ≤ 256 ^ 7 := Nat.pow_le_pow_right (by omega) (by omega)
                have hub : be (t.take j) < 72057594037927936 := Nat.lt_of_lt_of_le hbl hpow
                clear hpow hbl hlj
                have hor := or_byte (c := t[j]) hub
                have hqq : (t[j]).toNat < 256 := (t[j]).toNat_lt
                have HS := Lib.hid (show be (t.take (j + 1)) = be (t.take j) * 256 + (t[j]).toNat by rw [List.take_succ_eq_append_getElem (by omega), be_snoc])
                generalize be (t.take j) = u at *
                have hu0 : (0 : Int) ≤ (u : Int) := by omega
                have hu1 : (u : Int) < 72057594037927936 := by omega
                clear hub
                first
                | (exfalso; omega)
                | (generalize (t[j]).toNat = q at *
                   have hq0 : (0 : Int) ≤ (q : Int) := by omega
                   have hq1 : (q : Int) < 256 := by omega
                   go_wp2
                   go_round
                   case rel => exact ⟨j + 1, by omega, by go_num, by rw [HS.out, Int.natCast_add, Int.natCast_mul]; rfl⟩
                   case measure => simp [intOf]; omega)
              · obtain rfl : j = sz := by omega
                have hfl := be_take_lt t h8
                have hx : bits .xor .u64 ((be (t.take j) : Nat) : Int) 0 = ((be (t.take j) : Nat) : Int) := by
                  have := bits_xor_u64_nat (be (t.take j)) 0 hfl (by omega)
                  rw [Nat.xor_zero] at this
                  exact this
                generalize be (t.take j) = U at *
                have hdj : decide ((j : Int) < (j : Int)) = false := by simp
                clear HG
                have hN := toI_range hfl
                have hpre := fun (W : World) (hW : Below w.heap.size w W) => (hI.mono hW hW.size).upTo (k := 1 + j) (by simp; omega)
                have htk : (h :: t).take (1 + j) = h :: t.take j := by rw [Nat.add_comm, List.take_succ_cons]
                rw [htk] at hpre
                have HPRE := Lib.hid hpre
                clear hpre htk
                have hw64 : wrap64 (U : Int) = toI U := by unfold wrap64 toI; split <;> omega
                have HW := Lib.hid hw64
                clear hw64
                go_wp2_with fail
                rw [HW.out]
                clear HW hx hfl
                generalize toI U = N at *
                obtain ⟨m, hm⟩ : ∃ m : Nat, m = 1 + j := ⟨_, rfl⟩
                have hsum : IntKind.i64.wrap (1 + (j : Int)) = (m : Int) := (IntWalk.i64_in _ (by omega)).trans (by omega)
                have k3 : (0 : Int) ≤ (m : Int) := by omega
                have k4 : (m : Int) ≤ (c : Int) := by omega
                have k5 : (m : Int) ≤ ((t.length + 1 : Nat) : Int) := by omega
                have k6 : ((t.length + 1 : Nat) : Int) ≤ (c : Int) := by omega
                try rw [hcc] at k4 k6
                have HM1 := Lib.hid hm
                rw [← hm] at HPRE
                clear hm
                have hdrew : Below w.heap.size w w.drew := (Below.refl _ w).drew
                have hc0 : (convert 65 9 (.slice (some ⟨p, o, none⟩) m c)).run Tryz.prog w.drew = .ok (.string ⟨(h :: t.take j).toArray⟩) w.drew := run_string_at Tryz.underlying65 Tryz.underlying5 Tryz.underlying9 (HPRE.out _ hdrew)
                try rw [hcc] at hc0
                by_cases hq : numC N = h :: t.take j
                · have HR2 := Lib.hid (show firstR (h :: t) = (N, ((1 + j : Nat) : Int), 0) by rw [HR.out, if_pos hq])
                  have hlq : (h :: t.take j).length = j + 1 := by rw [List.length_cons, List.length_take]; omega
                  go_region_with (go_at_call 100; refine (num_calls N _ hN.1 hN.2).mono ?_; rintro e W1 ⟨⟨v1, rfl, hv1⟩, hb1⟩; (rw [hq] at hv1); obtain ⟨A1, c1, rfl, -⟩ := hv1.form; (rw [hlq] at hv1); have hB1 := hdrew.trans (hb1.mono hdrew.size); have hc1' := run_string_at (dst := 9) Tryz.underlying65 Tryz.underlying5 Tryz.underlying9 hv1; have hc2' := run_string_at (dst := 9) Tryz.underlying65 Tryz.underlying5 Tryz.underlying9 (HPRE.out _ hB1); (try rw [hcc] at hc2'))
                  all_goals
                    clear hsum
                    go_wp2
                    go_ret3
                    rw [HR2.out]
                    exact ⟨rfl, hB1⟩
                · have HR2 := Lib.hid (show firstR (h :: t) = (0, 0, 10) by rw [HR.out, if_neg hq])
                  obtain ⟨s1, hs1⟩ : ∃ s1 : ByteArray, s1 = ⟨(numC N).toArray⟩ := ⟨_, rfl⟩
                  obtain ⟨s2, hs2⟩ : ∃ s2 : ByteArray, s2 = ⟨(h :: t.take j).toArray⟩ := ⟨_, rfl⟩
                  have hne : ¬ s1.toList = s2.toList := by
                    rw [ByteArray.toList_eq, ByteArray.toList_eq, hs1, hs2]
                    exact hq
                  have hnb : (s1.toList == s2.toList) = false := by simpa using hne
                  rw [← hs2] at hc0
                  have HS1 := Lib.hid hs1
                  have HS2 := Lib.hid hs2
                  clear hs1 hs2 hq
                  go_region_with (go_at_call 100; refine (num_calls N _ hN.1 hN.2).mono ?_; rintro e W1 ⟨⟨v1, rfl, hv1⟩, hb1⟩; obtain ⟨A1, c1, rfl, -⟩ := hv1.form; have hB1 := hdrew.trans (hb1.mono hdrew.size); have hc1' := run_string_at (dst := 9) Tryz.underlying65 Tryz.underlying5 Tryz.underlying9 hv1; have hc2' := run_string_at (dst := 9) Tryz.underlying65 Tryz.underlying5 Tryz.underlying9 (HPRE.out _ hB1); (rw [← HS1.out] at hc1'); (rw [← HS2.out] at hc2'); (try rw [hcc] at hc2'))
                  all_goals
                    clear hsum
                    go_wp2
                    go_ret3
                    rw [HR2.out]
                    exact ⟨rfl, hB1⟩
end Ce
end Go.Proofs.YtdbkkldgobkjcaaGreat
