/-
  parcels in memory.
  parcels: New, made, Len, row, within.
  slices.Sorted(maps.Keys(m)): the keys of a map with int keys (map[int]api.Way), sorted, by the library's contracts.
  A range over an iterator whose values lie in memory that it makes itself: the round may rely on it that the value reads as it should.
  moves: the iterator All.
  moves: All, Under.
-/
import Derived.Test.YtdbkkldgobkjcaaGreatPd5
import Derived.Test.YtdbkkldgobkjcaaGreatLayed
import Derived.Test.YtdbkkldgobkjcaaGreatPd3
import Derived.Shelf.SlIterI.Nil
import Derived.Shelf.SortM.Plain
import Derived.Shelf.SortM.SortNone
import Derived.Test.YtdbkkldgobkjcaaGreatPd1
namespace Go.Proofs.YtdbkkldgobkjcaaGreat
open Go.RowKit Go.Maps
namespace Pc
open It Mv

/-- a list of items, in blocks of F -/
def LiAt (w : World) (F : Nat → Prop) (v : Value) (l : List It.Item) : Prop := ∃ lo B, ItemsAt w lo B v l ∧ B ≤ w.heap.size ∧ ∀ i, lo ≤ i → i < B → F i
theorem LiAt.keep {w w' : World} {F F' Fr : Nat → Prop} {v : Value} {l : List It.Item} (h : LiAt w F v l) (hk : Kept Fr w w') (hF : ∀ i, i < w.heap.size → F i → Fr i ∧ F' i) : LiAt w' F' v l := by
  obtain ⟨lo, B, h1, h2, h3⟩ := h
  exact ⟨lo, B, hk.sl h1 (fun i a b => (hF i (by omega) (h3 i a b)).1), Nat.le_trans h2 hk.size, fun i a b => (hF i (by omega) (h3 i a b)).2⟩
theorem LiAt.items {w : World} {F : Nat → Prop} {v : Value} {l : List It.Item} (h : LiAt w F v l) : ItemsAt w 0 w.heap.size v l := by
  obtain ⟨lo, B, h1, h2, h3⟩ := h
  exact h1.wide (Nat.zero_le _) h2
theorem LiAt.nil (w : World) (F : Nat → Prop) : LiAt w F (.slice none 0 0) [] := ⟨0, 0, ItemsAt.nil _ _ _, Nat.zero_le _, fun i _ h => by omega⟩
theorem LiAt.of_own {w : World} {F : Nat → Prop} {lo : Nat} {v : Value} {l : List It.Item} (h : w.ownsRow lo 37 2 v l.length (itemCells l)) (hF : ∀ i, lo ≤ i → i < w.heap.size → F i) : LiAt w F v l :=
  ⟨lo, w.heap.size, ItemsAt.of_own h, Nat.le_refl _, hF⟩

def rowV (d : Row) (v1 v2 v3 : Value) : Value := .agg #[.int .i64 d.od, v1, v2, v3, .map (some d.fb)]
def RowAt (w : World) (F : Nat → Prop) (val : Value) (d : Row) : Prop := ∃ v1 v2 v3, val = rowV d v1 v2 v3 ∧ LiAt w F v1 d.wa ∧ LiAt w F v2 d.sh ∧ LiAt w F v3 d.ba
theorem RowAt.keep {w w' : World} {F F' Fr : Nat → Prop} {val : Value} {d : Row} (h : RowAt w F val d) (hk : Kept Fr w w') (hF : ∀ i, i < w.heap.size → F i → Fr i ∧ F' i) : RowAt w' F' val d := by
  obtain ⟨v1, v2, v3, e, h1, h2, h3⟩ := h
  exact ⟨v1, v2, v3, e, h1.keep hk hF, h2.keep hk hF, h3.keep hk hF⟩

/-- a map's entries and the parcels that they are -/
def Rel (w : World) (F : Nat → Prop) : List (Int × Value) → List Row → Prop
  | [], [] => True
  | p :: m, d :: ds => p.1 = d.od ∧ RowAt w F p.2 d ∧ Rel w F m ds
  | _, _ => False
theorem Rel.keep {w w' : World} {F F' Fr : Nat → Prop} (hk : Kept Fr w w') (hF : ∀ i, i < w.heap.size → F i → Fr i ∧ F' i) : ∀ {m : List (Int × Value)} {ds : List Row}, Rel w F m ds → Rel w' F' m ds
  | [], [], _ => trivial
  | _ :: _, _ :: _, h => ⟨h.1, h.2.1.keep hk hF, Rel.keep hk hF h.2.2⟩
  | [], _ :: _, h => h.elim
  | _ :: _, [], h => h.elim
theorem Rel.length {w : World} {F : Nat → Prop} : ∀ {m : List (Int × Value)} {ds : List Row}, Rel w F m ds → m.length = ds.length
  | [], [], _ => rfl
  | _ :: _, _ :: _, h => congrArg (· + 1) (Rel.length h.2.2)
  | [], _ :: _, h => h.elim
  | _ :: _, [], h => h.elim
theorem Rel.keys {w : World} {F : Nat → Prop} : ∀ {m : List (Int × Value)} {ds : List Row}, Rel w F m ds → m.map (·.1) = ds.map (·.od)
  | [], [], _ => rfl
  | _ :: _, _ :: _, h => by simp only [List.map_cons]; rw [h.1, Rel.keys h.2.2]
  | [], _ :: _, h => h.elim
  | _ :: _, [], h => h.elim
theorem Rel.none {w : World} {F : Nat → Prop} {k : Int} : ∀ {m : List (Int × Value)} {ds : List Row}, Rel w F m ds → findR ds k = none → mGet m k = none
  | [], [], _, _ => rfl
  | p :: m, d :: ds, h, hf => by
    rw [findR_cons] at hf
    rw [mGet_cons]
    by_cases e : d.od = k
    · rw [if_pos e] at hf; cases hf
    · rw [if_neg e] at hf
      rw [if_neg (by rw [h.1]; exact e)]
      exact Rel.none h.2.2 hf
  | [], _ :: _, h, _ => h.elim
  | _ :: _, [], h, _ => h.elim
theorem Rel.some {w : World} {F : Nat → Prop} {k : Int} {d : Row} : ∀ {m : List (Int × Value)} {ds : List Row}, Rel w F m ds → findR ds k = some d → ∃ val, mGet m k = some val ∧ RowAt w F val d
  | [], [], _, h => by cases h
  | p :: m, c :: ds, h, hf => by
    rw [findR_cons] at hf
    rw [mGet_cons]
    by_cases e : c.od = k
    · rw [if_pos e] at hf
      cases hf
      rw [if_pos (by rw [h.1]; exact e)]
      exact ⟨_, rfl, h.2.1⟩
    · rw [if_neg e] at hf
      rw [if_neg (by rw [h.1]; exact e)]
      exact Rel.some h.2.2 hf
  | [], _ :: _, h, _ => h.elim
  | _ :: _, [], h, _ => h.elim
theorem Rel.del {w : World} {F : Nat → Prop} (k : Int) : ∀ {m : List (Int × Value)} {ds : List Row}, Rel w F m ds → Rel w F (mDel m k) (delR ds k)
  | [], [], _ => trivial
  | p :: m, d :: ds, h => by
    have ih := Rel.del k h.2.2
    unfold mDel delR at ih ⊢
    rw [List.filter_cons, List.filter_cons, h.1]
    split
    · exact ⟨h.1, h.2.1, ih⟩
    · exact ih
  | [], _ :: _, h => h.elim
  | _ :: _, [], h => h.elim
theorem Rel.ins {w : World} {F : Nat → Prop} {d : Row} {val : Value} (hv : RowAt w F val d) : ∀ {m : List (Int × Value)} {ds : List Row}, Rel w F m ds → Rel w F (mIns intK d.od val m) (insR d ds)
  | [], [], _ => ⟨rfl, hv, trivial⟩
  | p :: m, c :: ds, h => by
    unfold mIns insR
    have e : intK.lt d.od p.1 = decide (d.od < c.od) := by rw [h.1]; rfl
    rw [e]
    by_cases hlt : d.od < c.od
    · rw [if_pos (by simpa using hlt), if_pos hlt]
      exact ⟨rfl, hv, h⟩
    · rw [if_neg (by simpa using hlt), if_neg hlt]
      exact ⟨h.1, h.2.1, Rel.ins hv h.2.2⟩
  | [], _ :: _, h => h.elim
  | _ :: _, [], h => h.elim
theorem Rel.put {w : World} {F : Nat → Prop} {d : Row} {val : Value} (hv : RowAt w F val d) {m : List (Int × Value)} {ds : List Row} (h : Rel w F m ds) : Rel w F (mPut intK m d.od val) (putR ds d) :=
  Rel.ins hv (Rel.del _ h)

/-- a sorted list of whole numbers within bounds is short -/
theorem sorted_len (hi : Int) : ∀ (l : List Int) (lo : Int), l.Pairwise (· < ·) → (∀ x ∈ l, lo ≤ x ∧ x < hi) → lo ≤ hi → (l.length : Int) ≤ hi - lo
  | [], lo, _, _, h => by simp; omega
  | x :: r, lo, hp, hb, h => by
    rw [List.pairwise_cons] at hp
    have hx := hb x (by simp)
    have := sorted_len hi r (x + 1) hp.2 (fun y hy => ⟨by have := hp.1 y hy; omega, (hb y (List.mem_cons_of_mem _ hy)).2⟩) (by omega)
    simp only [List.length_cons, Int.natCast_add, Int.cast_ofNat_Int]
    omega
theorem GMap.keys_len {w : World} {b : Nat} {m : List (Int × Value)} (h : GMap intK w Tryz.prog 3 b m) (lo hi : Int) (hl : lo ≤ hi) (hb : ∀ p ∈ m, lo ≤ p.1 ∧ p.1 < hi) : (m.length : Int) ≤ hi - lo := by
  have hs := h.sorted keyedI
  have h1 : (m.map (·.1)).Pairwise (· < ·) := by
    rw [List.pairwise_map]
    exact hs.imp (fun {p q} h => by simpa [intK] using h)
  have := sorted_len hi (m.map (·.1)) lo h1 (fun x hx => by
    obtain ⟨p, hp, rfl⟩ := List.mem_map.1 hx
    exact hb p hp) hl
  simpa using this

/-- what the parcels may not share -/
def Fo (b mb : Nat) (X : Nat → Prop) (ds : List Row) (i : Nat) : Prop := i ≠ b ∧ i ≠ mb ∧ ¬ X i ∧ ∀ d ∈ ds, i ≠ d.fb
/-- the parcels of the program, in block b, the map in mb; X: blocks that others may write -/
structure PcAt (w : World) (base b mb : Nat) (X : Nat → Prop) (ds : List Row) : Prop where
  ob : Ob w b 80 #[.map (some mb)]
  map : ∃ m, GMap intK w Tryz.prog 3 mb m ∧ Rel w (Fo b mb X ds) m ds
  frm : ∀ d ∈ ds, GMap intK w Tryz.prog 3 d.fb d.fr
  apart : Apart ds
  sep : ∀ d ∈ ds, d.fb ≠ b ∧ d.fb ≠ mb ∧ ¬ X d.fb ∧ base ≤ d.fb
  ne : b ≠ mb
  lo : base ≤ b ∧ base ≤ mb
  nx : ¬ X b ∧ ¬ X mb
  xl : ∀ i, X i → i < w.heap.size
  ok : ∀ d ∈ ds, OkR d
theorem PcAt.keep {w w' : World} {base b mb : Nat} {X : Nat → Prop} {ds : List Row} (h : PcAt w base b mb X ds) (hk : Kept (fun i => i < w.heap.size ∧ ¬ X i) w w') : PcAt w' base b mb X ds := by
  obtain ⟨m, hm, hR⟩ := h.map
  refine ⟨hk.ob h.ob ⟨h.ob.lt, h.nx.1⟩, ⟨m, ?_, hR.keep hk fun i hi hf => ⟨⟨hi, hf.2.2.1⟩, hf⟩⟩, fun d hd => ?_, h.apart, h.sep, h.ne, h.lo, h.nx, fun i hi => Nat.lt_of_lt_of_le (h.xl i hi) hk.size, h.ok⟩
  · have hl := GMap.lt hm
    obtain ⟨es, clock, h1, F, h2, e⟩ := hm
    exact ⟨es, clock, (hk.block mb ⟨hl, h.nx.2⟩).trans h1, F, h2, e⟩
  · have hd2 := h.frm d hd
    obtain ⟨es, clock, h1, F, h2, e⟩ := hd2
    exact ⟨es, clock, (hk.block d.fb ⟨GMap.lt (h.frm d hd), (h.sep d hd).2.2.1⟩).trans h1, F, h2, e⟩
theorem PcAt.same {w w' : World} {base b mb : Nat} {X : Nat → Prop} {ds : List Row} (h : PcAt w base b mb X ds) (hb : Below w.heap.size w w') : PcAt w' base b mb X ds := h.keep (Kept.of_below hb fun _ hi => hi.1)
/-- others may write more blocks, if they are new to it -/
theorem PcAt.more {w w' : World} {base b mb : Nat} {X X' : Nat → Prop} {ds : List Row} (h : PcAt w base b mb X ds) (hb : Below w.heap.size w w') (hX : ∀ i, X' i → (X i ∨ w.heap.size ≤ i) ∧ i < w'.heap.size) : PcAt w' base b mb X' ds := by
  have h1 := h.same hb
  obtain ⟨m, hm, hR⟩ := h.map
  have hb1 := h.ob.lt
  have hb2 := GMap.lt hm
  have hn : ∀ i, i < w.heap.size → ¬ X i → ¬ X' i := fun i hi hx hx' => by
    rcases (hX i hx').1 with h | h
    · exact hx h
    · omega
  exact ⟨h1.ob, ⟨m, hm.below hb hb2, hR.keep (Kept.of_below hb (Fr := fun i => i < w.heap.size) fun _ hi => hi) fun i hi hf => ⟨hi, hf.1, hf.2.1, hn i hi hf.2.2.1, hf.2.2.2⟩⟩, h1.frm, h.apart, fun d hd => ⟨(h.sep d hd).1, (h.sep d hd).2.1, hn _ (GMap.lt (h.frm d hd)) (h.sep d hd).2.2.1, (h.sep d hd).2.2.2⟩, h.ne, h.lo, ⟨hn b hb1 h.nx.1, hn mb hb2 h.nx.2⟩, fun i hi => (hX i hi).2, h.ok⟩

/-- what a call on the parcels leaves alone -/
def Other (mb : Nat) (ds : List Row) (w w' : World) : Prop := Kept (fun i => i < w.heap.size ∧ i ≠ mb ∧ ∀ d ∈ ds, i ≠ d.fb) w w'
theorem Other.below {base b mb : Nat} {X : Nat → Prop} {ds : List Row} {w0 w w' : World} (h : Other mb ds w w') (hP : PcAt w base b mb X ds) {B : Nat} (hB : B ≤ base) (h0 : Below B w0 w) (hs : B ≤ w0.heap.size) : Below B w0 w' := by
  have h2 : Below B w w' := Kept.below h fun i hi => ⟨by have := h0.size; omega, by have := hP.lo.2; omega, fun d hd => by have := (hP.sep d hd).2.2.2; omega⟩
  exact h0.trans h2
theorem Other.of_below {mb : Nat} {ds : List Row} {w w' : World} (h : Below w.heap.size w w') : Other mb ds w w' := Kept.of_below h fun _ hi => hi.1
theorem Other.ob {mb : Nat} {ds : List Row} {w w' : World} (h : Other mb ds w w') {i : Nat} {t : TypeId} {cs : Array Value} (ho : Ob w i t cs) (h1 : i ≠ mb) (h2 : ∀ d ∈ ds, i ≠ d.fb) : Ob w' i t cs := Kept.ob h ho ⟨ho.lt, h1, h2⟩
theorem Other.gmap {κ : Type} [DecidableEq κ] {K : KeyK κ} {mb : Nat} {ds : List Row} {w w' : World} (h : Other mb ds w w') {i : Nat} {t : TypeId} {m : List (κ × Value)} (ho : GMap K w Tryz.prog t i m) (h1 : i ≠ mb) (h2 : ∀ d ∈ ds, i ≠ d.fb) : GMap K w' Tryz.prog t i m := by
  have hl := ho.lt
  obtain ⟨es, clock, h3, F, h4, e⟩ := ho
  exact ⟨es, clock, (Kept.block h i ⟨hl, h1, h2⟩).trans h3, F, h4, e⟩
end Pc
end Go.Proofs.YtdbkkldgobkjcaaGreat

namespace Go.Proofs.YtdbkkldgobkjcaaGreat
open Go.RowKit Go.Maps
namespace Pc
open It Mv

def zrow : Value := .agg #[.int .i64 0, .slice none 0 0, .slice none 0 0, .slice none 0 0, .map none]
theorem zeroR (w : World) : (zeroValue 87).run Tryz.prog w = .ok zrow w := by kernel_rfl

theorem new_calls (w : World) :
    Calls Tryz.prog 7 #[] w fun e w' => (∃ b mb, e = .returned (.pointer (some ⟨b, 0, none⟩)) ∧ ∀ X : Nat → Prop, (∀ i, X i → i < w.heap.size) → PcAt w' w.heap.size b mb X []) ∧ Below w.heap.size w w' := by
  have hmm := @run_makeMap Tryz.prog
  go_enter Tryz.func7, Tryz.ntmps7
  go_wp2
  go_ret
  have h1 : Below w.heap.size w ((w.alloc (.map #[] 0)).alloc (.cells #[.map (some w.heap.size)] 80)) := ((Below.refl _ w).alloc (Nat.le_refl _) _).alloc (by simp) _
  refine ⟨⟨w.heap.size + 1, w.heap.size, rfl, fun X hX => ⟨?_, ⟨[], ?_, trivial⟩, fun d hd => (by cases hd), List.Pairwise.nil, fun d hd => (by cases hd), by omega, ⟨by omega, by omega⟩, ⟨fun h => by have := hX _ h; omega, fun h => by have := hX _ h; omega⟩, fun i hi => by have := hX i hi; have := h1.size; omega, fun d hd => (by cases hd)⟩⟩, h1⟩
  · have := Ob.new (w.alloc (.map #[] 0)) 80 #[.map (some w.heap.size)]
    rwa [World.size_alloc] at this
  · exact (GMap.made (K := intK) w Tryz.prog 3).below ((Below.refl (w.heap.size + 1) _).alloc (by simp) _) (by omega)

theorem made_calls (b mb : Nat) (w : World) (h : w.cell? ⟨b, 0, none⟩ = some (.map (some mb))) :
    Calls Tryz.prog 43 #[.pointer (some ⟨b, 0, none⟩)] w fun e w' => e = .returned (.bool true) ∧ w = w' := by
  have hn := fun (w : World) (r : Option Nat) => run_neq_map_nil (P := Tryz.prog) w 78 _ _ r Tryz.underlying78
  go_enter Tryz.func43, Tryz.ntmps43
  go_wp2
  go_ret
  exact ⟨rfl, rfl⟩
theorem made_nil (w : World) :
    Calls Tryz.prog 43 #[.pointer none] w fun e w' => e = .returned (.bool false) ∧ w = w' := by
  go_enter Tryz.func43, Tryz.ntmps43
  go_wp2
  go_ret
  exact ⟨rfl, rfl⟩
theorem len_calls (base b mb : Nat) (X : Nat → Prop) (ds : List Row) (w : World) (h : PcAt w base b mb X ds) :
    Calls Tryz.prog 42 #[.pointer (some ⟨b, 0, none⟩)] w fun e w' => e = .returned (.int .i64 ds.length) ∧ w = w' := by
  obtain ⟨m, hm, hR⟩ := h.map
  have g0 : w.cell? ⟨b, 0, none⟩ = some (.map (some mb)) := h.ob.cell (j := 0) rfl
  have hl := fun ty => hm.len (tm := 78) Tryz.underlying78 ty
  rw [hR.length] at hl
  have cM := Lib.hid (made_calls b mb w g0)
  clear hR hm h
  go_enter Tryz.func42, Tryz.ntmps42
  go_wp2_with fail
  refine cM.out.mono ?_
  rintro e W ⟨rfl, rfl⟩
  go_wp2
  go_ret
  exact ⟨rfl, rfl⟩

/-- lists that fit -/
theorem fits_of {l : List It.Item} (h : M l) : Fits l := fun x hx => by
  have h1 := h.ok x hx
  have h2 := h1.1
  unfold good at h2
  simp only [Bool.and_eq_true, decide_eq_true_eq] at h2
  refine ⟨Nat.le_trans h2.2 (by unfold maxLen; omega), by omega, by omega⟩

set_option maxRecDepth 100000 in
theorem within_calls (all a b : List It.Item) (v va vb : Value) (w : World) (h : ItemsAt w 0 w.heap.size v all) (ha : ItemsAt w 0 w.heap.size va a) (hb : ItemsAt w 0 w.heap.size vb b) (hF : Fits all) (hFa : Fits a) (hFb : Fits b) (hFp : (plusOf a b).2 = 0 → Fits (plusOf a b).1) :
    Calls Tryz.prog 48 #[v, va, vb] w fun e w' =>
      (∃ v, e = .returned (.tuple #[v, .int .i64 (withinOf all a b).2]) ∧ w'.ownsRow w.heap.size 37 2 v (withinOf all a b).1.length (itemCells (withinOf all a b).1)) ∧ Below w.heap.size w w' := by
  have cP := Lib.hid (plus_calls a b va vb w ha hb hFa hFb)
  have cC := Lib.hid (fun W vs hz hI hJ => covers_calls all (plusOf a b).1 v vs W hI hJ hF (hFp hz))
  have HI := Lib.hid h
  have HW := Lib.hid (show withinOf all a b = if (plusOf a b).2 = 0 ∧ covers all (plusOf a b).1 = true then ((plusOf a b).1, 0) else ([], 50) from rfl)
  generalize withinOf all a b = R at *
  generalize plusOf a b = S at *
  obtain ⟨sl, sc⟩ := S
  dsimp only at cP cC HW
  obtain ⟨Av, cv, rfl, -⟩ := h.form
  clear h
  by_cases hc : sc = 0
  · subst hc
    go_enter Tryz.func48, Tryz.ntmps48
    go_wp2_with fail
    refine cP.out.mono ?_
    rintro e W ⟨⟨vs, rfl, hs⟩, hb1⟩
    have HS := Lib.hid hs
    obtain ⟨As, cs, rfl, -⟩ := (toAt hs).form
    have cC2 := Lib.hid (cC.out W _ (by trivial) (HI.out.mono hb1 hb1.size) (toAt hs))
    clear hs cC cP
    cases hcv : covers all sl with
    | true =>
      obtain rfl : R = (sl, 0) := by rw [HW.out, hcv]; rfl
      rw [hcv] at cC2
      go_wp2_with fail
      refine cC2.out.mono ?_
      rintro e W2 ⟨rfl, hb2⟩
      go_wp2
      go_ret2
      exact ⟨⟨_, rfl, row_below HS.out hb2⟩, hb1.trans (hb2.mono hb1.size)⟩
    | false =>
      obtain rfl : R = ([], 50) := by rw [HW.out, hcv]; rfl
      rw [hcv] at cC2
      go_wp2_with fail
      refine cC2.out.mono ?_
      rintro e W2 ⟨rfl, hb2⟩
      go_wp2
      go_ret2
      exact ⟨⟨_, rfl, World.ownsRow_nil _ _ _ _⟩, hb1.trans (hb2.mono hb1.size)⟩
  · obtain rfl : R = ([], 50) := by rw [HW.out, if_neg (fun h => hc h.1)]
    have hcb : (sc != 0) = true := by simpa using hc
    go_enter Tryz.func48, Tryz.ntmps48
    go_wp2_with fail
    refine cP.out.mono ?_
    rintro e W ⟨⟨vs, rfl, hs⟩, hb1⟩
    obtain ⟨As, cs, rfl, -⟩ := (toAt hs).form
    clear hs
    go_wp2
    go_ret2
    exact ⟨⟨_, rfl, World.ownsRow_nil _ _ _ _⟩, hb1⟩

/-- which row a call works on -/
def rowVal (ds : List Row) (od : Int) (l : List It.Item) (m : List (Int × Value)) : Value := if rowCode ds od l = 0 then (mGet m od).getD zrow else zrow
set_option maxRecDepth 100000 in
set_option maxHeartbeats 1000000 in
theorem row_calls (od : Int) (l : List It.Item) (lv : Value) (b mb : Nat) (m : List (Int × Value)) (ds : List Row) (w : World) (g0 : w.cell? ⟨b, 0, none⟩ = some (.map (some mb))) (hbl : b < w.heap.size) (hm : GMap intK w Tryz.prog 3 mb m) (hs : (mGet m od).isSome = (findR ds od).isSome)
    (hval : ∃ x0 A1 n1 c1 A2 n2 c2 A3 n3 c3 x4, (mGet m od).getD zrow = .agg #[.int .i64 x0, .slice A1 n1 c1, .slice A2 n2 c2, .slice A3 n3 c3, .map x4]) (hI : ItemsAt w 0 w.heap.size lv l) (hF : Fits l) (h0 : -9223372036854775808 ≤ od) (h1 : od ≤ 9223372036854775807) :
    Calls Tryz.prog 47 #[.pointer (some ⟨b, 0, none⟩), .int .i64 od, lv] w fun e w' => e = .returned (.tuple #[rowVal ds od l m, .int .i64 (rowCode ds od l)]) ∧ Below w.heap.size w w' := by
  obtain ⟨x0, A1, n1, c1, A2, n2, c2, A3, n3, c3, x4, hg⟩ := hval
  have hmb := hm.lt
  have hkey := Lib.hid (keyI h0 h1)
  have hal0 := (Below.refl w.heap.size w).alloc (Nat.le_refl _) (.cells #[.int .i64 0, .slice none 0 0, .slice none 0 0, .slice none 0 0, .map none] 87)
  have hal := hal0.alloc hal0.size (.cells #[.int .i64 x0, .slice A1 n1 c1, .slice A2 n2 c2, .slice A3 n3 c3, .map x4] 87)
  have cM := Lib.hid (made_calls b mb _ ((hal0.cell (p := ⟨b, 0, none⟩) hbl).trans g0))
  have HM := Lib.hid (hm.below hal0 hmb)
  have cMay := Lib.hid (may_calls l lv _ (hI.mono hal hal.size) hF)
  have HG := Lib.hid hg
  have HS := Lib.hid hs
  have HC := Lib.hid (show rowCode ds od l = if (findR ds od).isSome then (if may l then 0 else 60) else 4 from rfl)
  have HV := Lib.hid (show rowVal ds od l m = if rowCode ds od l = 0 then (mGet m od).getD zrow else zrow from rfl)
  generalize rowVal ds od l m = RV at *
  generalize rowCode ds od l = RC at *
  generalize (findR ds od).isSome = kn at *
  have hO1 := (Ob.new w 87 #[.int .i64 0, .slice none 0 0, .slice none 0 0, .slice none 0 0, .map none]).alloc (.cells #[.int .i64 x0, .slice A1 n1 c1, .slice A2 n2 c2, .slice A3 n3 c3, .map x4] 87)
  have hO2 := Ob.new (w.alloc (.cells #[.int .i64 0, .slice none 0 0, .slice none 0 0, .slice none 0 0, .map none] 87)) 87 #[.int .i64 x0, .slice A1 n1 c1, .slice A2 n2 c2, .slice A3 n3 c3, .map x4]
  rw [World.size_alloc] at hO2
  obtain ⟨Al, cl, rfl, -⟩ := hI.form
  clear hg hs hI hm
  cases kn with
  | false =>
    obtain rfl : RC = 4 := by rw [HC.out]; rfl
    obtain rfl : RV = zrow := by rw [HV.out]; rfl
    go_enter Tryz.func47, Tryz.ntmps47
    go_wp2_with (first
      | (go_at_call 43; refine cM.out.mono ?_; rintro e W ⟨rfl, rfl⟩)
      | (at_lookup; refine wpList_look_ok_g rfl (.tmp 18) (.tmp 19) _ rfl 3 _ keyedI Tryz.underlying78 rfl HM.out (zeroR _) _ _ rfl hkey.out _ _ HG.out HS.out ?_))
    obtain ⟨q0, q1, q2, q3, q4⟩ := hO1.five
    refine bodyPost_ret (v := .tuple #[zrow, .int .i64 4]) ?_ rfl ⟨rfl, hal⟩
    simp [results, Tryz.f47, go_sem, q0, q1, q2, q3, q4, zrow]
  | true =>
    cases hml : may l with
    | false =>
      rw [hml] at cMay
      obtain rfl : RC = 60 := by rw [HC.out, hml]; rfl
      obtain rfl : RV = zrow := by rw [HV.out]; rfl
      clear hml
      go_enter Tryz.func47, Tryz.ntmps47
      go_wp2_with (first
        | (go_at_call 43; refine cM.out.mono ?_; rintro e W ⟨rfl, rfl⟩)
        | (at_lookup; refine wpList_look_ok_g rfl (.tmp 18) (.tmp 19) _ rfl 3 _ keyedI Tryz.underlying78 rfl HM.out (zeroR _) _ _ rfl hkey.out _ _ HG.out HS.out ?_))
      refine cMay.out.mono ?_
      rintro e W ⟨rfl, hb1⟩
      replace hO1 := hO1.same hb1
      have hB := hal.trans (hb1.mono hal.size)
      obtain ⟨q0, q1, q2, q3, q4⟩ := hO1.five
      obtain ⟨f0, f1, f2, f3, f4⟩ := hO1.free5
      clear hal hal0 cM HM HG hO2
      go_wp2
      have hO3 := hO1.set5 (.int .i64 0) (.slice none 0 0) (.slice none 0 0) (.slice none 0 0) (.map none)
      obtain ⟨p0, p1, p2, p3, p4⟩ := hO3.five
      have hB2 := hB.grown (grown_set5 W w.heap.size (.int .i64 0) (.slice none 0 0) (.slice none 0 0) (.slice none 0 0) (.map none)) (by have := hB.size; omega) (fun g e => by have := Option.some.inj e; omega)
      refine bodyPost_ret (v := .tuple #[zrow, .int .i64 60]) ?_ rfl ⟨rfl, hB2⟩
      simp [results, Tryz.f47, go_sem, p0, p1, p2, p3, p4, zrow]
    | true =>
      rw [hml] at cMay
      obtain rfl : RC = 0 := by rw [HC.out, hml]; rfl
      obtain rfl : RV = .agg #[.int .i64 x0, .slice A1 n1 c1, .slice A2 n2 c2, .slice A3 n3 c3, .map x4] := by rw [HV.out]; exact HG.out
      clear hml
      go_enter Tryz.func47, Tryz.ntmps47
      go_wp2_with (first
        | (go_at_call 43; refine cM.out.mono ?_; rintro e W ⟨rfl, rfl⟩)
        | (at_lookup; refine wpList_look_ok_g rfl (.tmp 18) (.tmp 19) _ rfl 3 _ keyedI Tryz.underlying78 rfl HM.out (zeroR _) _ _ rfl hkey.out _ _ HG.out HS.out ?_))
      refine cMay.out.mono ?_
      rintro e W ⟨rfl, hb1⟩
      replace hO1 := hO1.same hb1
      replace hO2 := hO2.same hb1
      have hB := hal.trans (hb1.mono hal.size)
      obtain ⟨q0, q1, q2, q3, q4⟩ := hO2.five
      obtain ⟨r0, r1, r2, r3, r4⟩ := hO1.five
      obtain ⟨f0, f1, f2, f3, f4⟩ := hO1.free5
      clear hal hal0 cM HM HG
      go_wp2
      have hO3 := hO1.set5 (.int .i64 x0) (.slice A1 n1 c1) (.slice A2 n2 c2) (.slice A3 n3 c3) (.map x4)
      obtain ⟨p0, p1, p2, p3, p4⟩ := hO3.five
      have hB2 := hB.grown (grown_set5 W w.heap.size (.int .i64 x0) (.slice A1 n1 c1) (.slice A2 n2 c2) (.slice A3 n3 c3) (.map x4)) (by have := hB.size; omega) (fun g e => by have := Option.some.inj e; omega)
      refine bodyPost_ret (v := .tuple #[.agg #[.int .i64 x0, .slice A1 n1 c1, .slice A2 n2 c2, .slice A3 n3 c3, .map x4], .int .i64 0]) ?_ rfl ⟨rfl, hB2⟩
      simp [results, Tryz.f47, go_sem, p0, p1, p2, p3, p4]
end Pc
end Go.Proofs.YtdbkkldgobkjcaaGreat

namespace Go.Proofs.YtdbkkldgobkjcaaGreat
open Go.RowKit Go.Maps Go.Sort Go.Shelf
namespace KsW

theorem sorts (m : Nat) : AnyZI.SortsIn Tryz.prog Tryz.sorted80_ren Fence.wide m :=
  ⟨fun blk off cap ss W hH hblk hsz => callsIn_wide.2 (AnyM.slices_Sort_int Tryz.sort114 blk off cap ss W hH hblk hsz),
   fun p cap W => callsIn_wide.2 (AnyM.slices_Sort_int_none Tryz.sort114 p cap W)⟩
theorem keys_calls (mb : Option Nat) (W : World) : CallsIn Fence.wide 5 Tryz.prog 98 #[.map mb] W fun e w' => e = .returned (.func (.func 122) #[] #[.pointer (some ⟨W.heap.size, 0, none⟩)]) ∧ w' = W.alloc (.cells #[.map mb] 100) :=
  AnyZI.keys_in Tryz.keys98 Fence.wide 5 trivial rfl mb W
theorem intKeys_mEs (m : List (Int × Value)) : intKeys (DataW.map (mEs intK m)) = m.map (·.1) := by
  simp [intKeys, mEs, Function.comp_def, intK]
  exact fun _ _ _ => rfl

set_option maxHeartbeats 1000000 in
theorem sorted_calls (b : Nat) (m : List (Int × Value)) (w : World) (hown : GMap intK w Tryz.prog 3 b m) (KK : Keyed Tryz.prog 3) (hmax : m.length ≤ 1000000) :
    CallsIn Fence.wide 5 Tryz.prog 80 #[.func (.func 122) #[] #[.pointer (some ⟨w.heap.size, 0, none⟩)]] (w.alloc (.cells #[.map (some b)] 100)) fun e w' => ∃ v : Value, e = .returned v ∧
      w'.ownsRow (w.alloc (.cells #[.map (some b)] 100)).heap.size 3 1 v (m.map (·.1)).length (ints (m.map (·.1))) ∧ Below (w.alloc (.cells #[.map (some b)] 100)).heap.size (w.alloc (.cells #[.map (some b)] 100)) w' := by
  have hsort := hown.sorted KK
  have hbl := hown.lt
  have hsz : Maps.size (DataW.map (mEs intK m)) = m.length := by simp [Maps.size, mEs]
  have hseq : SeqGives Fence.wide 2 Tryz.prog 122 #[.pointer (some ⟨w.heap.size, 0, none⟩)] encZ (fun ss => ss.Perm (intKeys (DataW.map (mEs intK m)))) (Maps.size (DataW.map (mEs intK m))) (w.alloc (.cells #[.map (some b)] 100)) :=
    AnyZI.keys_gives (ρ := Tryz.keys98_ren) { Tryz.keys98 with } Fence.wide _ trivial rfl (by omega) w.heap.size b m.length (DataW.map (mEs intK m)) _ (by simp) (by simp) (by
      obtain ⟨es, clock, hb, Ft, hs, hD⟩ := hown
      exact ⟨es, clock, (Below.heap_alloc _ _ b hbl).trans hb, Ft, hs, hD⟩)
  have h := AnyZI.sorted_in Tryz.sorted80 Fence.wide 5 trivial trivial trivial trivial rfl (by omega) (sorts _) (enters_of Tryz.func114 (by kernel_rfl) rfl) 122 #[.pointer (some ⟨w.heap.size, 0, none⟩)] trivial (enters_of Tryz.func122 (by kernel_rfl) rfl) _ _ (by rw [hsz]; unfold maxLen; omega) (by rw [hsz]; omega) _ hseq
  refine h.mono ?_
  rintro e w' ⟨v, ss, rfl, hp, hrow, _, hb⟩
  rw [intKeys_mEs] at hp
  have hlt : (m.map (·.1)).Pairwise (· < ·) := by
    rw [List.pairwise_map]
    exact hsort.imp (fun {p q} h => by simpa [intK] using h)
  have he : ss.mergeSort (fun x y => decide (x ≤ y)) = m.map (·.1) := by
    refine ((List.mergeSort_perm ss _).trans hp).eq_of_pairwise (le := fun a b : Int => a ≤ b) (fun a b _ _ h1 h2 => Int.le_antisymm h1 h2) ?_ (hlt.imp (fun h => Int.le_of_lt h))
    have := List.pairwise_mergeSort (le := fun x y : Int => decide (x ≤ y)) (fun a b c h1 h2 => by simp only [decide_eq_true_eq] at *; omega) (fun a b => by simp only [Bool.or_eq_true, decide_eq_true_eq]; omega) ss
    exact this.imp (fun h => by simpa using h)
  have hl : ss.length = (m.map (·.1)).length := hp.length_eq
  rw [he, hl] at hrow
  exact ⟨v, rfl, hrow, hb⟩
end KsW
end Go.Proofs.YtdbkkldgobkjcaaGreat

namespace Go.Proofs.YtdbkkldgobkjcaaGreat
open Go.RowKit
namespace Rr
section
variable {δ : Type} {F : Fence} {n : Nat} {P : Program}

/-- a contract of an iterator: its values read by Rd where they are handed over -/
def Reads (F : Fence) (n : Nat) (P : Program) (gf : Nat) (lb : Array Value) (Rd : δ → Value → World → Prop) (Kp : World → World → Prop) (S Sp : List δ → Prop) (T : List δ → δ → Prop) (w : World) : Prop :=
  ∀ (l : Nat) (J Jx : List δ → World → Prop) (W : World), Below w.heap.size w W → AbidesFrom W.heap.size J → AbidesFrom W.heap.size Jx →
    (∀ pre d v W1, J pre W1 → T pre d → Rd d v W1 → YieldAt F (n - 1) P l #[v] W1 fun e W' => (e = .returned (.bool true) ∧ J (pre ++ [d]) W' ∧ Kp W1 W') ∨ (e = .returned (.bool false) ∧ Jx (pre ++ [d]) W')) →
    J [] W →
    CallsIn F n P gf (#[.func (.yield l) #[] #[]] ++ lb) W fun e W' => (∃ v, e = .returned v) ∧ ((∃ xs, S xs ∧ J xs W') ∨ (∃ pre, Sp pre ∧ Jx pre W'))

/-- the loop's own two blocks -/
structure Bk (D l : Nat) (r : Loop) (W : World) : Prop where
  loop : W.heap[l]? = some (.loop r)
  mark : W.heap[D]? = some (.deferred (some []))
theorem Bk.lt {D l : Nat} {r : Loop} {W : World} (h : Bk D l r W) : l < W.heap.size ∧ D < W.heap.size := ⟨(Array.getElem?_eq_some_iff.1 h.loop).1, (Array.getElem?_eq_some_iff.1 h.mark).1⟩
theorem Bk.abide {D l : Nat} {r : Loop} {A B : World} {row : Option Nat} (h : Bk D l r A) (hg : A.grownBy B row) (hr : ∀ k, row = some k → ∃ o : Obj, A.heap[k]? = some o ∧ o.isWalk = true) : Bk D l r B :=
  ⟨(grownBy_keeps hg hr h.loop rfl).trans h.loop, (grownBy_keeps hg hr h.mark rfl).trans h.mark⟩
theorem Bk.keeps {D l B : Nat} {r : Loop} {X Y : World} (h : Bk D l r X) (hk : KeepsFrom B X Y) (hD : B ≤ D) (hl : B ≤ l) : Bk D l r Y :=
  ⟨hk.same _ _ hl h.loop rfl, hk.same _ _ hD h.mark rfl⟩
theorem Bk.turn {D l : Nat} {r : Loop} {W : World} (h : Bk D l r W) (hne : D ≠ l) (r' : Loop) : Bk D l r' (W.putObj l (.loop r')) :=
  ⟨World.putObj_heap_same h.lt.1, (World.putObj_heap_other hne).trans h.mark⟩

/-- how a round may be left -/
def rpost (B : Nat) (Kp : World → World → Prop) (I : List δ → World → Prop) (Ix : Code → List δ → World → Prop) (xs : List δ) (W : World) : Exit → Act → World → Prop
  | .normal, _, W' => KeepsFrom B W W' ∧ Kp W W' ∧ I xs W'
  | .ret, _, W' => KeepsFrom B W W' ∧ Ix .ret xs W'
  | .exit id, _, W' => KeepsFrom B W W' ∧ Ix (.exit id) xs W'
  | .goto t, _, W' => KeepsFrom B W W' ∧ Ix (.goto t) xs W'
  | .panic _, _, _ => False
  | .outgrown, _, _ => False

theorem range_reads {g : Operand} {ps : Array Tmp} {assign body : Code} {Q : Exit → Act → World → Prop} {a : Act} {w : World}
    (hro : F.round = none) (h1 : 1 ≤ n) {gf : Nat} {lb : Array Value} (hg : a.eval g = .func (.func gf) #[] lb) (hFg : F.fn gf) (eg : ∀ args w, (callFunc gf args).run P w = .ok (.enter gf args) w)
    {Rd : δ → Value → World → Prop} {Kp : World → World → Prop} {S Sp : List δ → Prop} {T : List δ → δ → Prop} {w0 : World} (hit : Reads F (n - 1) P gf lb Rd Kp S Sp T w0) (hb0 : Below w0.heap.size w0 w)
    (hKt : ∀ {A B C : World}, Kp A B → Kp B C → Kp A C) (hKb : ∀ (W : World) (l : Nat) (r r' : Loop), w.heap.size ≤ l → W.heap[l]? = some (.loop r) → Kp W (W.putObj l (.loop r'))) (hps : ps.size = 1)
    (I : List δ → World → Prop) (Ix : Code → List δ → World → Prop) (hI : OwnFrom w.heap.size I) (hIx : ∀ c, OwnFrom w.heap.size (Ix c)) (h0 : I [] w)
    (hround : ∀ (l : Nat) (pre : List δ) (d : δ) (v : Value) (W : World), w.heap.size ≤ l → I pre W → T pre d → Rd d v W →
      assign.wpIn (F.inRound l) (n - 1 - 1) P (Exit.then (fun a' W' => KeepsFrom w.heap.size W W' ∧ Kp W W' ∧
        ∀ (W2 : World), W'.grownBy W2 (some l) → (∃ o : Obj, W'.heap[l]? = some o ∧ o.isCells = false) → body.wpIn (F.inRound l) (n - 1 - 1) P (rpost w.heap.size Kp I Ix (pre ++ [d]) W2) a' W2) (fun _ _ _ => False))
        { tmps := (ps.zip #[v]).foldl (fun t (p, v) => t.setIfInBounds p v) a.tmps, defers := [] } W)
    (hdone : ∀ (D : Nat) (xs : List δ) (W : World), w.heap.size ≤ D → S xs → I xs W → W.heap[D]? = some (.deferred (some [])) → Q .normal { a with defers := { target := .collected D, args := #[] } :: a.defers } W)
    (hstop : ∀ (D : Nat) (c : Code) (pre : List δ) (W : World), w.heap.size ≤ D → Sp pre → Ix c pre W → W.heap[D]? = some (.deferred (some [])) → c.wpIn F n P Q { a with defers := { target := .collected D, args := #[] } :: a.defers } W) :
    (Code.rangeFunc g ps assign body).wpIn F n P Q a w := by
  refine wpIn_rangeFunc fun fn hfn => ?_
  obtain ⟨mk, hmk⟩ : ∃ mk : LoopState → Option Code → Loop, mk = fun st pe => { state := st, pending := pe, fn := fn, tmps := a.tmps, params := ps, assign := assign, body := body, defers := w.heap.size } := ⟨_, rfl⟩
  obtain ⟨D, hD⟩ : ∃ D, D = w.heap.size := ⟨_, rfl⟩
  obtain ⟨V, hV⟩ : ∃ V : World, V = (w.alloc (.deferred (some []))).alloc (.loop (mk .ready none)) := ⟨_, rfl⟩
  have hbk : Bk D (D + 1) (mk .ready none) V := by
    rw [hV, hD]
    refine ⟨?_, (Below.heap_alloc _ _ _ (by simp)).trans (World.alloc_heap_new w _)⟩
    have := World.alloc_heap_new (w.alloc (.deferred (some []))) (.loop (mk .ready none))
    rwa [World.size_alloc] at this
  have hIV : I [] V := by rw [hV]; exact hI.alloc _ (hI.alloc _ h0)
  have hbV : Below w0.heap.size w0 V := by
    rw [hV]; exact hb0.trans ((((Below.refl _ w).alloc (Nat.le_refl _) _).alloc (by simp) _).mono hb0.size)
  have hVs : w.heap.size ≤ V.heap.size := by rw [hV]; simp; omega
  refine ⟨D + 1, [{ target := .collected D, args := #[] }], V, { target := .fn (.func gf) lb, args := #[.func (.yield (D + 1)) #[] #[]] }, V, gf, #[.func (.yield (D + 1)) #[] #[]] ++ lb, V, ?_, ?_, ?_, ?_, fun _ => h1, ?_⟩
  · rw [hro, hV, hmk, hD]; exact run_enterLoop_outer _ _ _ _ _
  · simp only [resolve, hg]
    simp [go_sem]
  · intro f' hf'
    simp [Target.leads] at hf'
    subst hf'
    exact hFg
  · simp [invoke, go_sem, eg]
  have walkRow : ∀ {A : World} {row : Option Nat}, (∀ r, row = some r → V.heap.size ≤ r ∧ ∃ o : Obj, A.heap[r]? = some o ∧ o.isWalk = true) → (∀ r, row = some r → w.heap.size ≤ r ∧ ∃ o : Obj, A.heap[r]? = some o ∧ o.isCells = false) :=
    fun hr r e => by
      obtain ⟨h1, o, h2, h3⟩ := hr r e
      exact ⟨Nat.le_trans hVs h1, o, h2, Obj.not_cells_of_walk h3⟩
  refine (hit (D + 1) (fun pre W => I pre W ∧ Bk D (D + 1) (mk .ready none) W) (fun pre W => ∃ c, Ix c pre W ∧ Bk D (D + 1) (mk .done (some c)) W) V hbV
    (fun s A B row h hg hr => ⟨hI s A B row h.1 hg (walkRow hr), h.2.abide hg fun k e => (hr k e).2⟩)
    (fun s A B row h hg hr => let ⟨c, h1, h2⟩ := h; ⟨c, hIx c s A B row h1 hg (walkRow hr), h2.abide hg fun k e => (hr k e).2⟩)
    (fun pre d v W hJ hlen hrd => ?_) ⟨hIV, hbk⟩).mono ?_
  · -- a round
    obtain ⟨hi, hk⟩ := hJ
    have hsz : #[v].size = (mk .ready none).params.size := by rw [hmk]; exact hps.symm
    have hy := run_yield (P := P) (args := #[v]) hk.loop hsz
    rw [hmk] at hy
    refine ⟨fn, _, assign, body, hy, roundIn_of_wpIn hfn (wpIn_mono (hround (D + 1) pre d v W (by omega) hi hlen hrd) fun e a1 W1 h => ?_)⟩
    cases e with
    | normal =>
      obtain ⟨hk1, hkp1, hbody⟩ := h
      have hb1 := hk.keeps hk1 (by omega) (by omega)
      have hst : (mk .ready none).state = .ready := by rw [hmk]
      refine ⟨_, run_beginRound hb1.loop hst, ?_⟩
      have hb2 := hb1.turn (by omega) { mk .ready none with state := .busy }
      have hkb2 : Kp W1 (W1.putObj (D + 1) (.loop { mk .ready none with state := .busy })) := hKb _ _ _ _ (by omega) hb1.loop
      refine wpIn_mono (hbody _ (grownBy_putObj' _ _ _) ⟨_, hb1.loop, rfl⟩) fun e a3 W3 h3 => ?_
      have fin : ∀ (j : Option Code), KeepsFrom w.heap.size (W1.putObj (D + 1) (.loop { mk .ready none with state := .busy })) W3 → ∃ W4, (Instr.endRound (D + 1) j).run P W3 = .ok (.bool j.isNone) W4 ∧ Bk D (D + 1) (mk (if j.isNone then .ready else .done) j) W4 ∧ W4 = W3.putObj (D + 1) (.loop (mk (if j.isNone then .ready else .done) j)) ∧
          W3.heap[D + 1]? = some (.loop { mk .ready none with state := .busy }) := fun j hk3 => by
        have hb3 := hb2.keeps hk3 (by omega) (by omega)
        have hr := run_endRound (P := P) j hb3.loop
        refine ⟨_, hr, ?_, ?_, hb3.loop⟩
        · have := hb3.turn (by omega) { mk .ready none with state := if j.isNone then .ready else .done, pending := j }
          rw [hmk] at this ⊢
          exact this
        · rw [hmk]
      cases e with
      | normal =>
        obtain ⟨hk3, hkp3, hi3⟩ := h3
        obtain ⟨W4, hr, hb4, e4, hl3⟩ := fin none hk3
        exact ⟨_, W4, hr, .inl ⟨rfl, ⟨by rw [e4]; exact hI.putObj _ hi3 (by omega) hl3 rfl, hb4⟩, hKt hkp1 (hKt hkb2 (hKt hkp3 (by rw [e4]; exact hKb _ _ _ _ (by omega) hl3)))⟩⟩
      | ret =>
        obtain ⟨hk3, hi3⟩ := h3
        obtain ⟨W4, hr, hb4, e4, hl3⟩ := fin (some .ret) hk3
        exact ⟨_, W4, hr, .inr ⟨rfl, .ret, by rw [e4]; exact (hIx _).putObj _ hi3 (by omega) hl3 rfl, hb4⟩⟩
      | exit id =>
        obtain ⟨hk3, hi3⟩ := h3
        obtain ⟨W4, hr, hb4, e4, hl3⟩ := fin (some (.exit id)) hk3
        exact ⟨_, W4, hr, .inr ⟨rfl, .exit id, by rw [e4]; exact (hIx _).putObj _ hi3 (by omega) hl3 rfl, hb4⟩⟩
      | goto t =>
        obtain ⟨hk3, hi3⟩ := h3
        obtain ⟨W4, hr, hb4, e4, hl3⟩ := fin (some (.goto t)) hk3
        exact ⟨_, W4, hr, .inr ⟨rfl, .goto t, by rw [e4]; exact (hIx _).putObj _ hi3 (by omega) hl3 rfl, hb4⟩⟩
      | panic ch => exact h3.elim
      | outgrown => exact h3.elim
    | ret => exact h.elim
    | exit id => exact h.elim
    | goto t => exact h.elim
    | panic ch => exact h.elim
    | outgrown => exact h.elim
  · -- behind the iterator
    rintro e W2 ⟨⟨v, rfl⟩, hend⟩
    rcases hend with ⟨xs, hS, hi, hk⟩ | ⟨pre, hSp, c, hi, hk⟩
    · have hr := run_endLoop (P := P) hk.loop (by rw [hmk]; simp)
      rw [hmk] at hr
      exact ⟨none, _, hr, hdone D xs _ (by omega) hS (hI.putObj _ hi (by omega) hk.loop rfl) ((World.putObj_heap_other (by omega)).trans hk.mark)⟩
    · have hr := run_endLoop (P := P) hk.loop (by rw [hmk]; simp)
      rw [hmk] at hr
      exact ⟨some c, _, hr, hstop D c pre _ (by omega) hSp ((hIx c).putObj _ hi (by omega) hk.loop rfl) ((World.putObj_heap_other (by omega)).trans hk.mark)⟩
end
end Rr
end Go.Proofs.YtdbkkldgobkjcaaGreat

namespace Go.Proofs.YtdbkkldgobkjcaaGreat
open Go.RowKit Go.Maps
namespace Mv
open It
attribute [local go_sem] Oper.semAt_some

/-- from world to world: whatever is not in X, and no loop's record, is as it was -/
structure KpX (X : Nat → Prop) (A B : World) : Prop where
  os : B.os = A.os
  tape : B.tape = A.tape
  output : B.output = A.output
  size : A.heap.size ≤ B.heap.size
  same : ∀ b o, A.heap[b]? = some o → ¬ X b → (∀ r, o ≠ .loop r) → B.heap[b]? = some o
theorem KpX.refl (X : Nat → Prop) (A : World) : KpX X A A := ⟨rfl, rfl, rfl, Nat.le_refl _, fun _ _ h _ _ => h⟩
theorem KpX.trans {X : Nat → Prop} {A B C : World} (h : KpX X A B) (k : KpX X B C) : KpX X A C :=
  ⟨k.os.trans h.os, k.tape.trans h.tape, k.output.trans h.output, Nat.le_trans h.size k.size, fun b o h1 h2 h3 => k.same b o (h.same b o h1 h2 h3) h2 h3⟩
theorem KpX.loop {X : Nat → Prop} {W : World} {l : Nat} {r r' : Loop} (h : W.heap[l]? = some (.loop r)) : KpX X W (W.putObj l (.loop r')) := by
  refine ⟨rfl, rfl, rfl, by simp, fun b _ hb _ hn => ?_⟩
  by_cases e : b = l
  · subst e
    rw [h] at hb
    cases hb
    exact (hn r rfl).elim
  · exact (World.putObj_heap_other e).trans hb
theorem KpX.of_grown {X : Nat → Prop} {A B : World} {row : Option Nat} (h : A.grownBy B row) (hr : ∀ g, row = some g → X g) : KpX X A B :=
  ⟨h.os, h.tape, h.output, h.size, fun b _ hb hx _ => (h.block b (Array.getElem?_eq_some_iff.1 hb).1 (fun e => hx (hr b e.symm))).trans hb⟩
theorem KpX.ob {X : Nat → Prop} {A B : World} {b : Nat} {t : TypeId} {cs : Array Value} (h : KpX X A B) (ho : Ob A b t cs) (hx : ¬ X b) : Ob B b t cs := h.same b _ ho hx (fun r e => by cases e)
theorem KpX.cell {X : Nat → Prop} {A B : World} {b j : Nat} {v : Value} (h : KpX X A B) (hc : A.cell? ⟨b, j, none⟩ = some v) (hx : ¬ X b) : B.cell? ⟨b, j, none⟩ = some v := by
  have h2 := hc
  unfold World.cell? at h2
  split at h2
  · rename_i c t _ hb
    have := h.same b _ hb hx (fun r e => by cases e)
    exact (World.cell?_of_block (w := A) (w' := B) (a := ⟨b, j, none⟩) (this.trans hb.symm)).trans hc
  · cases h2
theorem KpX.sl {X : Nat → Prop} {A B : World} {lo hi size n : Nat} {v : Value} {xs : List Value} (h : KpX X A B) (hs : Sl A lo hi size v n xs) (hx : ∀ i, lo ≤ i → i < hi → ¬ X i) : Sl B lo hi size v n xs := by
  refine ⟨hs.len, ?_⟩
  obtain ⟨A', c, e, h1, h2, h3⟩ := hs.at_
  refine ⟨A', c, e, h1, h2, fun hn => ?_⟩
  obtain ⟨b, o, ea, hl, hb, hc⟩ := h3 hn
  refine ⟨b, o, ea, hl, hb, fun j hj => ?_⟩
  have hj2 : j < xs.length := by rw [hs.len]; exact hj
  have e2 : xs[j]? = some xs[j] := List.getElem?_eq_getElem hj2
  rw [e2]
  exact h.cell ((hc j hj).trans e2) (hx b hl hb)
theorem KpX.gmap {X : Nat → Prop} {A B : World} {mb : Nat} {m : List (Int × Value)} {t : TypeId} (h : KpX X A B) (hm : GMap intK A Tryz.prog t mb m) (hx : ¬ X mb) : GMap intK B Tryz.prog t mb m := by
  obtain ⟨es, clock, h1, F, h2, e⟩ := hm
  exact ⟨es, clock, h.same mb _ h1 hx (fun r e => by cases e), F, h2, e⟩
theorem WayAt.kpx {X F : Nat → Prop} {A B : World} {val : Value} {d : Way} (h : WayAt A F val d) (hk : KpX X A B) (hF : ∀ i, F i → ¬ X i) : WayAt B F val d := by
  obtain ⟨v, lo, hi, e, h1, h2, h3⟩ := h
  exact ⟨v, lo, hi, e, hk.sl h1 (fun i a b => hF i (h3 i a b)), Nat.le_trans h2 hk.size, h3⟩
theorem Rel.kpx {X F : Nat → Prop} {A B : World} (hk : KpX X A B) (hF : ∀ i, F i → ¬ X i) : ∀ {m : List (Int × Value)} {ds : List Way}, Rel A F m ds → Rel B F m ds
  | [], [], _ => trivial
  | _ :: _, _ :: _, h => ⟨h.1, h.2.1.kpx hk hF, Rel.kpx hk hF h.2.2⟩
  | [], _ :: _, h => h.elim
  | _ :: _, [], h => h.elim
theorem MvAt.kpx {X : Nat → Prop} {A B : World} {b mb : Nat} {ds : List Way} (h : MvAt A b mb X ds) (hk : KpX X A B) : MvAt B b mb X ds := by
  obtain ⟨m, hm, hR⟩ := h.map
  exact ⟨hk.ob h.ob h.nx.1, ⟨m, hk.gmap hm h.nx.2, hR.kpx hk (fun i hi => hi.2.2)⟩, h.ne, h.nx, fun i hi => Nat.lt_of_lt_of_le (h.xl i hi) hk.size, h.ok, h.len⟩
theorem MvAt.sorted {w : World} {b mb : Nat} {X : Nat → Prop} {ds : List Way} (h : MvAt w b mb X ds) : ds.Pairwise (fun c d => c.mv < d.mv) := by
  obtain ⟨m, hm, hR⟩ := h.map
  have hs := hm.sorted keyedI
  have h1 : (m.map (·.1)).Pairwise (· < ·) := by
    rw [List.pairwise_map]
    exact hs.imp (fun {p q} h => by simpa [intK] using h)
  rw [hR.keys, List.pairwise_map] at h1
  exact h1
theorem findW_sorted : ∀ {ds : List Way}, ds.Pairwise (fun c d => c.mv < d.mv) → ∀ (k : Nat) (h : k < ds.length), findW ds ds[k].mv = some ds[k]
  | [], _, k, h => by simp at h
  | d :: r, hp, 0, _ => by rw [findW_cons]; exact if_pos rfl
  | d :: r, hp, k + 1, h => by
    rw [List.pairwise_cons] at hp
    have hk : k < r.length := by simpa using h
    rw [findW_cons, List.getElem_cons_succ, if_neg (fun e => by have := hp.1 r[k] (List.getElem_mem hk); omega)]
    exact findW_sorted hp.2 k hk

/-- how a move that is handed over reads: its list lies in a block from lo on -/
def RdW (lo : Nat) (d : Way) (v : Value) (W : World) : Prop := ∃ sv, v = wayV d sv ∧ ItemsAt W lo W.heap.size sv d.l

theorem RdOf {W2 wr : World} {lo : Nat} {mv fr to_ : Int} {il : List It.Item} {came : Bool} {sv : Value} (h : W2.ownsRow wr.heap.size 37 2 sv il.length (itemCells il)) (o : Obj) (hl : lo ≤ wr.heap.size) :
    RdW lo ⟨mv, fr, to_, il, came⟩ (wayV ⟨mv, fr, to_, il, came⟩ sv) (W2.alloc o) :=
  ⟨sv, rfl, (ItemsAt.mono (ItemsAt.of_own h) ((Below.refl _ W2).alloc (Nat.le_refl _) o) (by simp)).wide hl (Nat.le_refl _)⟩

set_option maxRecDepth 100000 in
set_option maxHeartbeats 4000000 in
theorem all_reads (n : Nat) (hn : 1 ≤ n) (b mb Bs : Nat) (X : Nat → Prop) (ds : List Way) (w : World) (h : MvAt w b mb X ds) (hbs : Ob w Bs 53 #[.pointer (some ⟨b, 0, none⟩)]) (hxs : ¬ X Bs) :
    Rr.Reads Fence.wide n Tryz.prog 97 #[.pointer (some ⟨Bs, 0, none⟩)] (RdW w.heap.size) (KpX X) (fun xs => xs = ds) (fun pre => pre <+: ds) (fun pre d => pre ++ [d] <+: ds) w := by
  intro l J Jx W hW hJ hJx hY h0
  have hM := h.same hW
  have hB := hbs.same hW
  have cB : W.cell? ⟨Bs, 0, none⟩ = some (.pointer (some ⟨b, 0, none⟩)) := hB.cell (j := 0) rfl
  have gb : W.cell? ⟨b, 0, none⟩ = some (.map (some mb)) := hM.ob.cell (j := 0) rfl
  have cMd := Lib.hid (made_calls b mb W gb)
  obtain ⟨m, hm, hR⟩ := hM.map
  have hlen := hM.len
  have hml := hR.length
  have cK := Lib.hid (KsW.keys_calls (some mb) W)
  have cS := KsW.sorted_calls mb m W hm keyedI (by omega)
  rw [hR.keys] at cS
  have CS := Lib.hid cS
  have HM := Lib.hid hM
  have HB := Lib.hid hB
  have hws := hW.size
  clear cS hm hR hml
  refine callsIn_of_wp Tryz.func97 rfl trivial ?_ rfl
  simp only [Tryz.ntmps97, List.size_toArray, List.length_cons, List.length_nil, Nat.reduceAdd, Nat.reduceSub, Array.replicate_succ, Array.replicate_zero, List.push_toArray, List.append_toArray, List.nil_append, List.cons_append]
  gi_wp2_with (first
    | (refine ⟨trivial, ?_⟩; gi_at_call 58; refine (callsIn_wide.2 cMd.out).mono ?_; rintro e W' ⟨rfl, rfl⟩)
    | (refine ⟨trivial, ?_⟩; gi_at_call 98; refine (callsIn_wide.2 (callsIn_wide.1 cK.out)).mono ?_; rintro e W' ⟨rfl, rfl⟩)
    | (refine ⟨trivial, ?_⟩; gi_at_call 80; refine (callsIn_wide.2 (callsIn_wide.1 CS.out)).mono ?_; rintro e W1 ⟨kv, rfl, hkv, hb1⟩; obtain ⟨Ak, ck, rfl, -⟩ := (IntsAt.of_own hkv).form))
  have hal := (Below.refl W.heap.size W).alloc (Nat.le_refl _) (.cells #[.map (some mb)] 100)
  have hb01 : Below W.heap.size W W1 := hal.trans (hb1.mono hal.size)
  have hs01 := hb01.size
  have hJ1 : J [] W1 := hJ _ _ _ none h0 (only_of_below hb01 none) (fun r e => by cases e)
  have hM1 := HM.out.same hb01
  have hB1 := HB.out.same hb01
  have hK1 : IntsAt W1 W.heap.size W1.heap.size (.slice Ak ds.length ck) (ds.map (·.mv)) := by
    have := (IntsAt.of_own hkv).wide (lo' := W.heap.size) (by simp) (Nat.le_refl _)
    rwa [List.length_map] at this
  have HXL := Lib.hid HM.out.xl
  clear hkv hal hb1 cK CS cMd cB gb
  gi_loopw [4, 5, 6, 17] (fun _ _ _ i wr => ∃ k : Nat, k ≤ ds.length ∧ i = .int .i64 k ∧ J (ds.take k) wr ∧ MvAt wr b mb X ds ∧ Ob wr Bs 53 #[.pointer (some ⟨b, 0, none⟩)] ∧ IntsAt wr W.heap.size W1.heap.size (.slice Ak ds.length ck) (ds.map (·.mv)) ∧ W1.heap.size ≤ wr.heap.size) (fun _ _ _ i _ => ds.length - (intOf i).toNat)
  case atStart => exact ⟨0, by omega, rfl, hJ1, hM1, hB1, hK1, Nat.le_refl _⟩
  case round =>
    obtain ⟨k, hk, rfl, hJr, hMr, hBr, hKr, hsr⟩ := hrel
    clear hJ1 hM1 hB1 hK1
    by_cases hlt : k < ds.length
    · obtain ⟨kb, ko, hA, hk1, hk2, hck⟩ := hKr.cellAt (j := k) (by simpa using hlt)
      have hget : (ds.map (·.mv)).getD k 0 = ds[k].mv := by simp [hlt]
      rw [hget] at hck
      have hd : decide (k < ds.length) = true := by simpa using hlt
      have hfind := findW_sorted hMr.sorted k hlt
      have hok := hMr.ok ds[k] (List.getElem_mem hlt)
      have cB : wr.cell? ⟨Bs, 0, none⟩ = some (.pointer (some ⟨b, 0, none⟩)) := hBr.cell (j := 0) rfl
      have cMv := move_calls ds[k].mv b mb X ds wr hMr (by have := hok.mv; omega) (by have := hok.mv; omega)
      rw [hfind] at cMv
      have hlen3 : ds.take k ++ [ds[k]] <+: ds := by
        rw [← List.take_succ_eq_append_getElem hlt]
        exact List.take_prefix _ _
      have HTk := Lib.hid (show ds.take (k + 1) = ds.take k ++ [ds[k]] from List.take_succ_eq_append_getElem hlt)
      have HLk := Lib.hid (show (ds.take k).length = k by rw [List.length_take]; omega)
      have CMv := Lib.hid cMv
      have HMr := Lib.hid hMr
      have HBr := Lib.hid hBr
      have HKr := Lib.hid hKr
      have HJr := Lib.hid hJr
      clear cMv hfind hMr hBr hKr hJr hget hok
      generalize ds[k] = d at *
      obtain ⟨mv, fr, to_, il, came⟩ := d
      subst hA
      dsimp only at hck CMv
      have hlw : w.heap.size ≤ wr.heap.size := by omega
      have HY := Lib.hid (fun W1 v (h1 : J (ds.take k) W1) h3 => hY (ds.take k) ⟨mv, fr, to_, il, came⟩ v W1 h1 hlen3 h3)
      gi_wp2_with (refine ⟨trivial, ?_⟩; gi_at_call 62; refine (callsIn_wide.2 CMv.out).mono ?_; rintro e W2 ⟨⟨sv, rfl, hsv⟩, hb2⟩; obtain ⟨As, cs, rfl, -⟩ := (ItemsAt.of_own hsv).form; simp only [wayV, Option.getD_some, Option.isSome_some])
      dsimp only [Option.getD_some] at hsv
      have hb3 := hb2.alloc hb2.size (.cells #[.int .i64 mv, .int .i64 fr, .int .i64 to_, .slice As il.length cs, .bool came] 108)
      have hJ3 := hJ _ _ _ none HJr.out (only_of_below hb3 none) (fun r e => by cases e)
      have hR3 := RdOf (mv := mv) (fr := fr) (to_ := to_) (came := came) hsv (.cells #[.int .i64 mv, .int .i64 fr, .int .i64 to_, .slice As il.length cs, .bool came] 108) hlw
      obtain ⟨fn, tmps, assign, body, hy, hR⟩ := HY.out _ _ hJ3 hR3
      dsimp only [wayV] at hy
      rw [show Sem.run _ _ _ = _ from hy]
      gi_wp2
      refine hR.mono ?_
      have hM3 := HMr.out.same hb3
      have hB3 := HBr.out.same hb3
      have hK3 := Sl.below HKr.out (hb3.mono hsr)
      have hs3 := hb3.size
      clear hJ3 hR3 hsv hb2
      rintro e W4 (⟨rfl, hJ4, hk4⟩ | ⟨rfl, hJx4⟩)
      · rw [← HTk.out] at hJ4
        gi_wp2
        go_roundw
        case rel => exact ⟨k + 1, by omega, by go_num, hJ4, hM3.kpx hk4, hk4.ob hB3 hxs, hk4.sl hK3 (fun i h1 h2 hx => by have := HXL.out i hx; omega), by have := hk4.size; omega⟩
        case measure => simp [intOf]; omega
      · rw [← HTk.out] at hJx4
        gi_wp2
        refine bodyPost_ret (results_none rfl _ _ _) rfl ?_
        exact ⟨⟨_, rfl⟩, .inr ⟨_, List.take_prefix _ _, hJx4⟩⟩
    · obtain rfl : k = ds.length := by omega
      have hd : decide (ds.length < ds.length) = false := by simp
      rw [List.take_length] at hJr
      gi_wp2
      go_end0
      exact ⟨⟨_, rfl⟩, .inl ⟨_, rfl, hJr⟩⟩
end Mv
end Go.Proofs.YtdbkkldgobkjcaaGreat

namespace Go.Proofs.YtdbkkldgobkjcaaGreat
open Go.RowKit Go.Maps
namespace Mv
open It
attribute [local go_sem] Oper.semAt_some

theorem M_fits {l : List It.Item} (h : M l) : Fits l := fun x hx => by
  have h1 := h.ok x hx
  have h2 := h1.1
  unfold good at h2
  simp only [Bool.and_eq_true, decide_eq_true_eq] at h2
  refine ⟨Nat.le_trans h2.2 (by unfold maxLen; omega), by omega, by omega⟩
theorem normRes_M {L : List It.Item} (h : (normRes L).2 = 0) : M (normRes L).1 := by
  unfold normRes at h ⊢
  by_cases hs : sumsCode L = 0
  · rw [if_pos hs] at h ⊢
    by_cases hl : (normL L).length ≤ 16
    · rw [if_pos hl] at h ⊢
      have hs2 := hs
      unfold sumsCode at hs2
      cases ho : L.all okC with
      | false => rw [ho] at hs2; simp at hs2
      | true =>
        cases hv : over L with
        | true => rw [ho, hv] at hs2; simp at hs2
        | false =>
          refine normL_M (fun x hx => ?_) (tot_le hv) hl
          have := List.all_eq_true.1 ho x hx
          unfold okC at this
          rw [Bool.and_eq_true] at this
          exact this.1
    · rw [if_neg hl] at h
      simp at h
  · rw [if_neg hs] at h
    exact absurd h hs
theorem plusOf_M {a b : List It.Item} (h : (plusOf a b).2 = 0) : M (plusOf a b).1 := by
  unfold plusOf at h ⊢
  split
  · rename_i hm
    rw [if_pos hm] at h
    exact normRes_M h
  · rename_i hm
    rw [if_neg hm] at h
    simp at h

/-- what is on its way from fr to to_: the sum so far, and whether it went on -/
def skipW (fr to_ : Int) (d : Way) : Bool := d.came || decide (d.fr ≠ fr) || decide (d.to_ ≠ to_)
def underStep (fr to_ : Int) (s : List It.Item × Bool) (d : Way) : List It.Item × Bool :=
  if s.2 then (if skipW fr to_ d then s else if (plusOf s.1 d.l).2 = 0 then ((plusOf s.1 d.l).1, true) else (s.1, false)) else s
def underGo (fr to_ : Int) (ds : List Way) : List It.Item × Bool := ds.foldl (underStep fr to_) ([], true)
def underOf (fr to_ : Int) (ds : List Way) : List It.Item := (underGo fr to_ ds).1
theorem underGo_snoc (fr to_ : Int) (ds : List Way) (d : Way) : underGo fr to_ (ds ++ [d]) = underStep fr to_ (underGo fr to_ ds) d := by
  unfold underGo
  rw [List.foldl_append]
  rfl
theorem under_fix (fr to_ : Int) (s : List It.Item × Bool) (h : s.2 = false) : ∀ ds : List Way, ds.foldl (underStep fr to_) s = s
  | [] => rfl
  | d :: r => by
    have : underStep fr to_ s d = s := by unfold underStep; rw [h]; rfl
    rw [List.foldl_cons, this]
    exact under_fix fr to_ s h r
theorem under_stop {fr to_ : Int} {pre ds : List Way} (hp : pre <+: ds) (h : (underGo fr to_ pre).2 = false) : underGo fr to_ ds = underGo fr to_ pre := by
  obtain ⟨r, rfl⟩ := hp
  unfold underGo at h ⊢
  rw [List.foldl_append]
  exact under_fix _ _ _ h r
theorem underGo_fits (fr to_ : Int) (ds : List Way) : Fits (underGo fr to_ ds).1 := by
  suffices ∀ (ds : List Way) (s : List It.Item × Bool), Fits s.1 → Fits (ds.foldl (underStep fr to_) s).1 from this ds _ (fun _ h => by cases h)
  intro ds
  induction ds with
  | nil => exact fun _ h => h
  | cons d r ih =>
    intro s hs
    refine ih _ ?_
    unfold underStep
    split
    · split
      · exact hs
      · split
        · rename_i h
          exact M_fits (plusOf_M h)
        · exact hs
    · exact hs

/-- a write that hits no cells leaves cells as they are -/
theorem ob_keep {A B : World} {row : Option Nat} {b : Nat} {t : TypeId} {cs : Array Value} (h : Ob A b t cs) (hg : A.grownBy B row) (hr : ∀ r, row = some r → ∃ o : Obj, A.heap[r]? = some o ∧ o.isCells = false) : Ob B b t cs :=
  h.kept hg fun e => by
    obtain ⟨o, h1, h2⟩ := hr b e.symm
    rw [show A.heap[b]? = _ from h] at h1
    cases h1
    cases h2
theorem sl_keep {A B : World} {row : Option Nat} {lo hi size n : Nat} {v : Value} {xs : List Value} (h : Sl A lo hi size v n xs) (hg : A.grownBy B row) (hr : ∀ r, row = some r → ∃ o : Obj, A.heap[r]? = some o ∧ o.isCells = false) (hh : hi ≤ A.heap.size) : Sl B lo hi size v n xs := by
  refine ⟨h.len, ?_⟩
  obtain ⟨A', c, e, h1, h2, h3⟩ := h.at_
  refine ⟨A', c, e, h1, h2, fun hn => ?_⟩
  obtain ⟨b, o, ea, hl, hb, hc⟩ := h3 hn
  refine ⟨b, o, ea, hl, hb, fun j hj => ?_⟩
  have hj2 : j < xs.length := by rw [h.len]; exact hj
  have e2 : xs[j]? = some xs[j] := List.getElem?_eq_getElem hj2
  rw [e2]
  have h4 := (hc j hj).trans e2
  refine (World.cell?_of_block (hg.block b (by omega) fun e => ?_)).trans h4
  obtain ⟨u, h5, h6⟩ := hr b e.symm
  unfold World.cell? at h4
  rw [h5] at h4
  cases u <;> first | (cases h6; done) | (cases h4; done)

/-- Moves.All: the receiver is boxed, the function value captures the box -/
theorem all_calls (p : Option Addr) (w : World) :
    Calls Tryz.prog 55 #[.pointer p] w fun e w' => e = .returned (.func (.func 97) #[] #[.pointer (some ⟨w.heap.size, 0, none⟩)]) ∧ w.alloc (.cells #[.pointer p] 53) = w' := by
  go_enter Tryz.func55, Tryz.ntmps55
  go_wp2
  go_ret
  exact ⟨rfl, rfl⟩

set_option maxRecDepth 100000 in
set_option maxHeartbeats 4000000 in
theorem under_calls (fr to_ : Int) (b mb : Nat) (X : Nat → Prop) (ds : List Way) (w : World) (h : MvAt w b mb X ds) :
    Calls Tryz.prog 56 #[.pointer (some ⟨b, 0, none⟩), .int .i64 fr, .int .i64 to_] w fun e w' =>
      (∃ v, e = .returned v ∧ w'.ownsRow w.heap.size 37 2 v (underOf fr to_ ds).length (itemCells (underOf fr to_ ds))) ∧ Below w.heap.size w w' := by
  have hok := h.ok
  refine (callsIn_wide (n := 6)).1 ?_
  refine callsIn_of_wp_marks Tryz.func56 rfl trivial ?_ rfl
  simp only [Tryz.ntmps56, List.size_toArray, List.length_cons, List.length_nil, Nat.reduceAdd, Nat.reduceSub, Array.replicate_succ, Array.replicate_zero, List.push_toArray, List.append_toArray, List.nil_append, List.cons_append]
  gi_wp2_with (refine ⟨trivial, ?_⟩; gi_at_call 55; refine (callsIn_wide.2 (all_calls _ _)).mono ?_; rintro e w' ⟨rfl, rfl⟩)
  have o0 : Ob w (w.heap.size) 3 #[.int .i64 fr] → True := fun _ => trivial
  have a1 := Below.refl w.heap.size w
  have b0 := Ob.new w 3 #[.int .i64 fr]
  have a2 := a1.alloc (Nat.le_refl _) (.cells #[.int .i64 fr] 3)
  have b1 := Ob.new (w.alloc (.cells #[.int .i64 fr] 3)) 3 #[.int .i64 to_]
  have a3 := a2.alloc (by simp) (.cells #[.int .i64 to_] 3)
  have b2 := Ob.new ((w.alloc (.cells #[.int .i64 fr] 3)).alloc (.cells #[.int .i64 to_] 3)) 30 #[.slice none 0 0]
  have a4 := a3.alloc (by simp; omega) (.cells #[.slice none 0 0] 30)
  have b3 := Ob.new (((w.alloc (.cells #[.int .i64 fr] 3)).alloc (.cells #[.int .i64 to_] 3)).alloc (.cells #[.slice none 0 0] 30)) 30 #[.slice none 0 0]
  have a5 := a4.alloc (by simp; omega) (.cells #[.slice none 0 0] 30)
  have b4 := Ob.new ((((w.alloc (.cells #[.int .i64 fr] 3)).alloc (.cells #[.int .i64 to_] 3)).alloc (.cells #[.slice none 0 0] 30)).alloc (.cells #[.slice none 0 0] 30)) 53 #[.pointer (some ⟨b, 0, none⟩)]
  have hB5 := a5.alloc (by simp; omega) (.cells #[.pointer (some ⟨b, 0, none⟩)] 53)
  replace b0 := (((b0.alloc (.cells #[.int .i64 to_] 3)).alloc (.cells #[.slice none 0 0] 30)).alloc (.cells #[.slice none 0 0] 30)).alloc (.cells #[.pointer (some ⟨b, 0, none⟩)] 53)
  replace b1 := ((b1.alloc (.cells #[.slice none 0 0] 30)).alloc (.cells #[.slice none 0 0] 30)).alloc (.cells #[.pointer (some ⟨b, 0, none⟩)] 53)
  replace b2 := (b2.alloc (.cells #[.slice none 0 0] 30)).alloc (.cells #[.pointer (some ⟨b, 0, none⟩)] 53)
  replace b3 := b3.alloc (.cells #[.pointer (some ⟨b, 0, none⟩)] 53)
  simp only [World.size_alloc] at b1 b2 b3 b4
  have hsz5 : w.heap.size + 5 = (((((w.alloc (.cells #[.int .i64 fr] 3)).alloc (.cells #[.int .i64 to_] 3)).alloc (.cells #[.slice none 0 0] 30)).alloc (.cells #[.slice none 0 0] 30)).alloc (.cells #[.pointer (some ⟨b, 0, none⟩)] 53)).heap.size := by simp
  clear a1 a2 a3 a4 a5 o0
  generalize (((((w.alloc (.cells #[.int .i64 fr] 3)).alloc (.cells #[.int .i64 to_] 3)).alloc (.cells #[.slice none 0 0] 30)).alloc (.cells #[.slice none 0 0] 30)).alloc (.cells #[.pointer (some ⟨b, 0, none⟩)] 53)) = w5 at *
  have hM5 : MvAt w5 b mb (fun i => X i ∨ i = w.heap.size + 1 + 1 ∨ i = w.heap.size + 1 + 1 + 1) ds := h.more hB5 fun i hi => by
    rcases hi with hi | rfl | rfl
    · exact ⟨.inl hi, by have := h.xl i hi; omega⟩
    · exact ⟨.inr (by omega), by omega⟩
    · exact ⟨.inr (by omega), by omega⟩
  obtain ⟨X5, hX5⟩ : ∃ X5 : Nat → Prop, X5 = fun i => X i ∨ i = w.heap.size + 1 + 1 ∨ i = w.heap.size + 1 + 1 + 1 := ⟨_, rfl⟩
  rw [← hX5] at hM5
  have hxs5 : ¬ X5 (w.heap.size + 1 + 1 + 1 + 1) := fun hi => by
    rw [hX5] at hi
    rcases hi with hi | hi | hi
    · have := h.xl _ hi; omega
    · omega
    · omega
  have hx2 : X5 (w.heap.size + 1 + 1) := by rw [hX5]; exact .inr (.inl rfl)
  have hx3 : X5 (w.heap.size + 1 + 1 + 1) := by rw [hX5]; exact .inr (.inr rfl)
  clear hX5 h
  refine Rr.range_reads (n := 6) rfl (by omega) (gf := 97) rfl trivial (enters_of Tryz.func97 (by kernel_rfl) rfl)
    (all_reads 5 (by omega) b mb (w.heap.size + 1 + 1 + 1 + 1) X5 ds w5 hM5 b4 hxs5) (Below.refl _ _) (fun h k => h.trans k) (fun W l r r' _ h => KpX.loop h) rfl
    (fun pre W => Ob W w.heap.size 3 #[.int .i64 fr] ∧ Ob W (w.heap.size + 1) 3 #[.int .i64 to_] ∧ Ob W (w.heap.size + 1 + 1) 30 #[.slice none 0 0] ∧ Below w.heap.size w5 W ∧ (underGo fr to_ pre).2 = true ∧
      ∃ v, Ob W (w.heap.size + 1 + 1 + 1) 30 #[v] ∧ W.ownsRow w.heap.size 37 2 v (underGo fr to_ pre).1.length (itemCells (underGo fr to_ pre).1))
    (fun c pre W => c = .ret ∧ Below w.heap.size w5 W ∧ (underGo fr to_ pre).2 = false ∧
      ∃ v, Ob W (w.heap.size + 1 + 1) 30 #[v] ∧ W.ownsRow w.heap.size 37 2 v (underGo fr to_ pre).1.length (itemCells (underGo fr to_ pre).1))
    (fun s A B row hs hg hr => ⟨ob_keep hs.1 hg (fun r e => (hr r e).2), ob_keep hs.2.1 hg (fun r e => (hr r e).2), ob_keep hs.2.2.1 hg (fun r e => (hr r e).2), ownFrom_below (B := w5.heap.size) (by omega) (by omega) s A B row hs.2.2.2.1 hg hr, hs.2.2.2.2.1, by
      obtain ⟨v, h1, h2⟩ := hs.2.2.2.2.2
      exact ⟨v, ob_keep h1 hg (fun r e => (hr r e).2), row_keep h2 hg (fun r e => (hr r e).2)⟩⟩)
    (fun c s A B row hs hg hr => ⟨hs.1, ownFrom_below (B := w5.heap.size) (by omega) (by omega) s A B row hs.2.1 hg hr, hs.2.2.1, by
      obtain ⟨v, h1, h2⟩ := hs.2.2.2
      exact ⟨v, ob_keep h1 hg (fun r e => (hr r e).2), row_keep h2 hg (fun r e => (hr r e).2)⟩⟩)
    ⟨b0, b1, b2, Below.refl _ _, rfl, _, b3, World.ownsRow_nil _ _ _ _⟩ ?round ?done ?stop
  case round =>
    rintro l pre ⟨dmv, dfr, dto, dl, dcame⟩ v W hl ⟨hb0, hb1, hb2, hB, hgo, ov, hb3, hown⟩ hlen ⟨sv, rfl, hsv⟩
    obtain ⟨As, cs, rfl, -⟩ := hsv.form
    have hFl : Fits dl := by
      obtain ⟨r, hr⟩ := hlen
      exact M_fits ((may_iff dl).1 (hok ⟨dmv, dfr, dto, dl, dcame⟩ (by rw [← hr]; simp)).l)
    have hFg := underGo_fits fr to_ pre
    obtain ⟨Ao, co, rfl, -⟩ := (ItemsAt.of_own hown).form
    have hstep := underGo_snoc fr to_ pre ⟨dmv, dfr, dto, dl, dcame⟩
    have HG := Lib.hid (underGo_snoc fr to_ pre ⟨dmv, dfr, dto, dl, dcame⟩)
    have hs1 : underGo fr to_ pre = ((underGo fr to_ pre).1, true) := by rw [← hgo]
    rw [hs1] at hstep
    generalize (underGo fr to_ pre).1 = G at *
    dsimp only [wayV]
    gi_wp2
    have g1 := World.grownBy_alloc W (.cells #[.int .i64 dmv, .int .i64 dfr, .int .i64 dto, .slice As dl.length cs, .bool dcame] 108) none
    refine ⟨keeps_below _ ((Below.refl _ W).alloc (Nat.le_refl _) _), KpX.of_grown g1 (fun g e => by cases e), fun W2 hg2 o2 ho21 ho22 => ?_⟩
    have ho2 : ∃ o : Obj, (W.alloc (.cells #[.int .i64 dmv, .int .i64 dfr, .int .i64 dto, .slice As dl.length cs, .bool dcame] 108)).heap[l]? = some o ∧ o.isCells = false := ⟨o2, ho21, ho22⟩
    have hb8 := ob_keep (Ob.new W 108 #[.int .i64 dmv, .int .i64 dfr, .int .i64 dto, .slice As dl.length cs, .bool dcame]) hg2 (fun r e => by cases e; exact ho2)
    replace hb0 := ob_keep (hb0.alloc _) hg2 (fun r e => by cases e; exact ho2)
    replace hb1 := ob_keep (hb1.alloc _) hg2 (fun r e => by cases e; exact ho2)
    replace hb2 := ob_keep (hb2.alloc _) hg2 (fun r e => by cases e; exact ho2)
    replace hb3 := ob_keep (hb3.alloc _) hg2 (fun r e => by cases e; exact ho2)
    replace hown := row_keep (hown.alloc _) hg2 (fun r e => by cases e; exact ho2)
    replace hB : Below w.heap.size w5 W2 := (hB.alloc (by have := hB.size; omega) (.cells #[.int .i64 dmv, .int .i64 dfr, .int .i64 dto, .slice As dl.length cs, .bool dcame] 108)).grown hg2 (by have := hB.size; simp; omega) (fun k e => by cases e; omega)
    have hsl : ItemsAt W2 0 W2.heap.size (.slice As dl.length cs) dl := (sl_keep (Sl.below hsv ((Below.refl _ W).alloc (Nat.le_refl _) (.cells #[.int .i64 dmv, .int .i64 dfr, .int .i64 dto, .slice As dl.length cs, .bool dcame] 108))) hg2 (fun r e => by cases e; exact ho2) (by simp)).wide (Nat.zero_le _) (by have := hg2.size; simp at this; omega)
    have d0 := hb8.cell (j := 0) (v := .int .i64 dmv) rfl
    have d1 := hb8.cell (j := 1) (v := .int .i64 dfr) rfl
    have d2 := hb8.cell (j := 2) (v := .int .i64 dto) rfl
    have d3 := hb8.cell (j := 3) (v := .slice As dl.length cs) rfl
    have d4 := hb8.cell (j := 4) (v := .bool dcame) rfl
    have c0 := hb0.cell (j := 0) (v := .int .i64 fr) rfl
    have c1 := hb1.cell (j := 0) (v := .int .i64 to_) rfl
    have c3 := hb3.cell (j := 0) (v := .slice Ao G.length co) rfl
    have f3 := hb3.frozen 0
    have f2 := hb2.frozen 0
    have cP := Lib.hid (plus_calls G dl (.slice Ao G.length co) (.slice As dl.length cs) W2 (toAt hown) hsl hFg hFl)
    have hsk : skipW fr to_ ⟨dmv, dfr, dto, dl, dcame⟩ = (dcame || decide (dfr ≠ fr) || decide (dto ≠ to_)) := rfl
    have HS := Lib.hid hstep
    clear hstep hlen hsv ho2 ho21 ho22 hFl hFg hsk hs1 hgo
    cases hsb : skipW fr to_ ⟨dmv, dfr, dto, dl, dcame⟩ with
    | true =>
      have hst : underGo fr to_ (pre ++ [⟨dmv, dfr, dto, dl, dcame⟩]) = (G, true) := HS.out.trans (by unfold underStep; simp [hsb])
      have HT := Lib.hid hst
      have hfin : Rr.rpost w5.heap.size (KpX X5) (fun pre W => Ob W w.heap.size 3 #[.int .i64 fr] ∧ Ob W (w.heap.size + 1) 3 #[.int .i64 to_] ∧ Ob W (w.heap.size + 1 + 1) 30 #[.slice none 0 0] ∧ Below w.heap.size w5 W ∧ (underGo fr to_ pre).2 = true ∧
          ∃ v, Ob W (w.heap.size + 1 + 1 + 1) 30 #[v] ∧ W.ownsRow w.heap.size 37 2 v (underGo fr to_ pre).1.length (itemCells (underGo fr to_ pre).1))
          (fun c pre W => c = .ret ∧ Below w.heap.size w5 W ∧ (underGo fr to_ pre).2 = false ∧
      ∃ v, Ob W (w.heap.size + 1 + 1) 30 #[v] ∧ W.ownsRow w.heap.size 37 2 v (underGo fr to_ pre).1.length (itemCells (underGo fr to_ pre).1)) (pre ++ [⟨dmv, dfr, dto, dl, dcame⟩]) W2 .normal ⟨#[], []⟩ W2 := by
        refine ⟨keeps_below _ (Below.refl _ _), KpX.refl _ _, hb0, hb1, hb2, hB, by rw [HT.out], _, hb3, ?_⟩
        rw [HT.out]; exact hown
      have HF := Lib.hid hfin
      unfold skipW at hsb
      clear hfin hst hb0 hb1 hb2 hb3 hB hown
      dsimp only at hsb
      cases hc : dcame with
      | true =>
        subst hc
        clear hsb
        gi_wp2
        exact HF.out
      | false =>
        subst hc
        by_cases e1 : dfr = fr
        · subst e1
          by_cases e2 : dto = to_
          · subst e2; simp at hsb
          · have q2 : (dto != to_) = true := by simpa using e2
            have q1 : (dfr != dfr) = false := by simp
            clear hsb
            gi_wp2
            exact HF.out
        · have q1 : (dfr != fr) = true := by simpa using e1
          clear hsb
          gi_wp2
          exact HF.out
    | false =>
      unfold skipW at hsb
      simp only [Bool.or_eq_false_iff, decide_eq_false_iff_not, Decidable.not_not] at hsb
      obtain ⟨⟨rfl, rfl⟩, rfl⟩ := hsb
      have HS2 := Lib.hid (show underGo dfr dto (pre ++ [⟨dmv, dfr, dto, dl, false⟩]) = if (plusOf G dl).2 = 0 then ((plusOf G dl).1, true) else (G, false) from HS.out.trans (by unfold underStep; simp [skipW]))
      clear HS HG
      generalize plusOf G dl = R at *
      obtain ⟨Rl, Rc⟩ := R
      dsimp only at cP HS2
      have q1 : (dfr != dfr) = false := by simp
      have q2 : (dto != dto) = false := by simp
      by_cases hc0 : Rc = 0
      · subst hc0
        gi_wp2_with (refine ⟨trivial, ?_⟩; gi_at_call 91; refine (callsIn_wide.2 cP.out).mono ?_; rintro e W3 ⟨⟨rv, rfl, hrv⟩, hb3'⟩; have f33 := (hb3.same hb3').frozen 0; have c33 := (hb3.same hb3').cell (j := 0) (v := .slice Ao G.length co) rfl; obtain ⟨Ar, cr, rfl, -⟩ := (ItemsAt.of_own hrv).form)
        generalize hrr : Value.slice Ar Rl.length cr = rv at *
        have H2 : underGo dfr dto (pre ++ [⟨dmv, dfr, dto, dl, false⟩]) = (Rl, true) := by simpa using HS2.out
        have g3 := only_of_below hb3' none
        refine ⟨keeps_set (keeps_below _ hb3') _ _, (KpX.of_grown g3 (fun g e => by cases e)).trans (KpX.of_grown (grownBy_set W3 _ 0 rv) (fun g e => by cases e; exact hx3)), ((hb0.same hb3').other (by omega) 0 rv), ((hb1.same hb3').other (by omega) 0 rv), ((hb2.same hb3').other (by omega) 0 rv), ?_, by rw [H2], rv, (hb3.same hb3').set 0 rv, ?_⟩
        · exact (hB.trans (hb3'.mono (by have := hB.size; omega))).grown (grownBy_set W3 _ 0 rv) (by have := hB.size; have := hb3'.size; omega) (fun k e => by cases e; omega)
        · rw [H2]; exact ownsRow_wide (ownsRow_far hrv (grownBy_set W3 _ 0 rv) (by have := hB.size; omega)) (by have := hB.size; omega)
      · have hcb : (Rc != 0) = true := by simpa using hc0
        gi_wp2_with (refine ⟨trivial, ?_⟩; gi_at_call 91; refine (callsIn_wide.2 cP.out).mono ?_; rintro e W3 ⟨⟨rv, rfl, hrv⟩, hb3'⟩; have f33 := (hb2.same hb3').frozen 0; have c34 := (hb2.same hb3').cell (j := 0) (v := .slice none 0 0) rfl; have c33 := (hb3.same hb3').cell (j := 0) (v := .slice Ao G.length co) rfl)
        have H2 : underGo dfr dto (pre ++ [⟨dmv, dfr, dto, dl, false⟩]) = (G, false) := HS2.out.trans (if_neg hc0)
        have g3 := only_of_below hb3' none
        refine ⟨keeps_set (keeps_below _ hb3') _ _, rfl, ?_, by rw [H2], _, (hb2.same hb3').set 0 (.slice Ao G.length co), ?_⟩
        · exact (hB.trans (hb3'.mono (by have := hB.size; omega))).grown (grownBy_set W3 _ 0 _) (by have := hB.size; have := hb3'.size; omega) (fun k e => by cases e; omega)
        · rw [H2]
          have hrow := row_below hown hb3'
          exact hrow.kept (grownBy_set W3 _ 0 _) (.inr (Boxed.not_row (hb2.same hb3') (by decide) hrow).symm)
  case done =>
    rintro D xs W hD rfl ⟨hb0, hb1, hb2, hB, hgo, ov, hb3, hown⟩ hK
    obtain ⟨Ao, co, rfl, -⟩ := (ItemsAt.of_own hown).form
    have c3 := hb3.cell (j := 0) (v := .slice Ao (underGo fr to_ xs).1.length co) rfl
    have c2 := hb2.cell (j := 0) (v := .slice none 0 0) rfl
    have f2 := hb2.frozen 0
    change W.ownsRow w.heap.size 37 2 (.slice Ao (underOf fr to_ xs).length co) (underOf fr to_ xs).length (itemCells (underOf fr to_ xs)) at hown
    have hU : (underGo fr to_ xs).1 = underOf fr to_ xs := rfl
    rw [hU] at c3 hb3
    generalize underOf fr to_ xs = U at *
    have hne : some (w.heap.size + 1 + 1) ≠ (Value.slice Ao U.length co).ownBlock := Boxed.not_row hb2 (by decide) hown
    have hb22 := hb2.set 0 (.slice Ao U.length co)
    have hown2 := hown.kept (grownBy_set W (w.heap.size + 1 + 1) 0 (.slice Ao U.length co)) (.inr hne.symm)
    have hBB := hB.grown (grownBy_set W (w.heap.size + 1 + 1) 0 (.slice Ao U.length co)) (by have := hB.size; omega) (fun k e => by cases e; omega)
    have hK2 : (W.setCell ⟨w.heap.size + 1 + 1, 0, none⟩ (.slice Ao U.length co)).heap[D]? = some (.deferred (some [])) := ((grownBy_set W (w.heap.size + 1 + 1) 0 (.slice Ao U.length co)).block D (Array.getElem?_eq_some_iff.1 hK).1 (fun e => by cases e; omega)).trans hK
    have HU : underOf fr to_ xs = U := hU
    gi_wp2
    refine ⟨by simp, .inl ⟨_, _, rfl, run_takeDeferred hK2, ?_⟩⟩
    have hown3 := row_keep hown2 (grownBy_putObj' _ D (.deferred none)) (fun r e => by cases e; exact ⟨_, hK2, rfl⟩)
    have c4 := (boxed_end hb22 hK2).cell
    refine ⟨.slice Ao U.length co, ?_, ⟨_, rfl, by rw [HU]; exact hown3⟩, below_end (hB5.trans hBB) (by omega) hK2⟩
    simp [results, Tryz.f56, go_sem, c4]
  case stop =>
    rintro D c pre W hD hp ⟨rfl, hB, hgo, ov, hb2, hown⟩ hK
    have hst := under_stop hp hgo
    have hU : (underGo fr to_ pre).1 = underOf fr to_ ds := by unfold underOf; rw [hst]
    rw [hU] at hown
    clear hst hU hgo hp
    have c2 := hb2.cell (j := 0) (v := ov) rfl
    gi_wp2
    have hown2 := hown
    have hK2 := hK
    have hb22 := hb2
    have hBB := hB
    refine ⟨by simp, .inl ⟨_, _, rfl, run_takeDeferred hK2, ?_⟩⟩
    have hown3 := row_keep hown2 (grownBy_putObj' _ D (.deferred none)) (fun r e => by cases e; exact ⟨_, hK2, rfl⟩)
    have c4 := (boxed_end hb22 hK2).cell
    refine ⟨ov, ?_, ⟨_, rfl, hown3⟩, below_end (hB5.trans hBB) (by omega) hK2⟩
    simp [results, Tryz.f56, go_sem, c4]
end Mv
end Go.Proofs.YtdbkkldgobkjcaaGreat
