/-
  parcels in memory.
-/
import Derived.Test.YtdbkkldgobkjcaaPcA
namespace Go.Proofs.Ytdbkkldgobkjcaa
open Go.RowKit Go.Maps
namespace Pc
open It Mv

/-- a list of items, in blocks of F -/
def LiAt (w : World) (F : Nat → Prop) (v : Value) (l : List It.Item) : Prop := ∃ lo B, ItemsAt w lo B v l ∧ B ≤ w.heap.size ∧ ∀ i, lo ≤ i → i < B → F i
theorem LiAt.keep {w w' : World} {F F' Fr : Nat → Prop} {v : Value} {l : List It.Item} (h : LiAt w F v l) (hk : Kept Fr w w') (hF : ∀ i, i < w.heap.size → F i → Fr i ∧ F' i) : LiAt w' F' v l := by
  obtain ⟨lo, B, h1, h2, h3⟩ := h
  exact ⟨lo, B, hk.sl h1 (fun i a b => (hF i (by omega) (h3 i a b)).1), Nat.le_trans h2 hk.size, fun i a b => (hF i (by omega) (h3 i a b)).2⟩
theorem LiAt.items {w : World} {F : Nat → Prop} {v : Value} {l : List It.Item} (h : LiAt w F v l) : ItemsAt w 0 w.heap.size v l := by
  obtain ⟨lo, B, h1, h2, h3⟩ := h
  exact h1.wide (Nat.zero_le _) h2
theorem LiAt.nil (w : World) (F : Nat → Prop) : LiAt w F (.slice none 0 0) [] := ⟨0, 0, ItemsAt.nil _ _ _, Nat.zero_le _, fun i _ h => by omega⟩
theorem LiAt.of_own {w : World} {F : Nat → Prop} {lo : Nat} {v : Value} {l : List It.Item} (h : w.ownsRow lo 36 2 v l.length (itemCells l)) (hF : ∀ i, lo ≤ i → i < w.heap.size → F i) : LiAt w F v l :=
  ⟨lo, w.heap.size, ItemsAt.of_own h, Nat.le_refl _, hF⟩

def rowV (d : Row) (v1 v2 v3 : Value) : Value := .agg #[.int .i64 d.od, v1, v2, v3, .map (some d.fb)]
def RowAt (w : World) (F : Nat → Prop) (val : Value) (d : Row) : Prop := ∃ v1 v2 v3, val = rowV d v1 v2 v3 ∧ LiAt w F v1 d.wa ∧ LiAt w F v2 d.sh ∧ LiAt w F v3 d.ba
theorem RowAt.keep {w w' : World} {F F' Fr : Nat → Prop} {val : Value} {d : Row} (h : RowAt w F val d) (hk : Kept Fr w w') (hF : ∀ i, i < w.heap.size → F i → Fr i ∧ F' i) : RowAt w' F' val d := by
  obtain ⟨v1, v2, v3, e, h1, h2, h3⟩ := h
  exact ⟨v1, v2, v3, e, h1.keep hk hF, h2.keep hk hF, h3.keep hk hF⟩

/-- a map's entries and the parcels that they are -/
def Rel (w : World) (F : Nat → Prop) : List (Int × Value) → List Row → Prop
  | [], [] => True
  | p :: m, d :: ds => p.1 = d.od ∧ RowAt w F p.2 d ∧ Rel w F m ds
  | _, _ => False
theorem Rel.keep {w w' : World} {F F' Fr : Nat → Prop} (hk : Kept Fr w w') (hF : ∀ i, i < w.heap.size → F i → Fr i ∧ F' i) : ∀ {m : List (Int × Value)} {ds : List Row}, Rel w F m ds → Rel w' F' m ds
  | [], [], _ => trivial
  | _ :: _, _ :: _, h => ⟨h.1, h.2.1.keep hk hF, Rel.keep hk hF h.2.2⟩
  | [], _ :: _, h => h.elim
  | _ :: _, [], h => h.elim
theorem Rel.length {w : World} {F : Nat → Prop} : ∀ {m : List (Int × Value)} {ds : List Row}, Rel w F m ds → m.length = ds.length
  | [], [], _ => rfl
  | _ :: _, _ :: _, h => congrArg (· + 1) (Rel.length h.2.2)
  | [], _ :: _, h => h.elim
  | _ :: _, [], h => h.elim
theorem Rel.keys {w : World} {F : Nat → Prop} : ∀ {m : List (Int × Value)} {ds : List Row}, Rel w F m ds → m.map (·.1) = ds.map (·.od)
  | [], [], _ => rfl
  | _ :: _, _ :: _, h => by simp only [List.map_cons]; rw [h.1, Rel.keys h.2.2]
  | [], _ :: _, h => h.elim
  | _ :: _, [], h => h.elim
theorem Rel.none {w : World} {F : Nat → Prop} {k : Int} : ∀ {m : List (Int × Value)} {ds : List Row}, Rel w F m ds → findR ds k = none → mGet m k = none
  | [], [], _, _ => rfl
  | p :: m, d :: ds, h, hf => by
    rw [findR_cons] at hf
    rw [mGet_cons]
    by_cases e : d.od = k
    · rw [if_pos e] at hf; cases hf
    · rw [if_neg e] at hf
      rw [if_neg (by rw [h.1]; exact e)]
      exact Rel.none h.2.2 hf
  | [], _ :: _, h, _ => h.elim
  | _ :: _, [], h, _ => h.elim
theorem Rel.some {w : World} {F : Nat → Prop} {k : Int} {d : Row} : ∀ {m : List (Int × Value)} {ds : List Row}, Rel w F m ds → findR ds k = some d → ∃ val, mGet m k = some val ∧ RowAt w F val d
  | [], [], _, h => by cases h
  | p :: m, c :: ds, h, hf => by
    rw [findR_cons] at hf
    rw [mGet_cons]
    by_cases e : c.od = k
    · rw [if_pos e] at hf
      cases hf
      rw [if_pos (by rw [h.1]; exact e)]
      exact ⟨_, rfl, h.2.1⟩
    · rw [if_neg e] at hf
      rw [if_neg (by rw [h.1]; exact e)]
      exact Rel.some h.2.2 hf
  | [], _ :: _, h, _ => h.elim
  | _ :: _, [], h, _ => h.elim
theorem Rel.del {w : World} {F : Nat → Prop} (k : Int) : ∀ {m : List (Int × Value)} {ds : List Row}, Rel w F m ds → Rel w F (mDel m k) (delR ds k)
  | [], [], _ => trivial
  | p :: m, d :: ds, h => by
    have ih := Rel.del k h.2.2
    unfold mDel delR at ih ⊢
    rw [List.filter_cons, List.filter_cons, h.1]
    split
    · exact ⟨h.1, h.2.1, ih⟩
    · exact ih
  | [], _ :: _, h => h.elim
  | _ :: _, [], h => h.elim
theorem Rel.ins {w : World} {F : Nat → Prop} {d : Row} {val : Value} (hv : RowAt w F val d) : ∀ {m : List (Int × Value)} {ds : List Row}, Rel w F m ds → Rel w F (mIns intK d.od val m) (insR d ds)
  | [], [], _ => ⟨rfl, hv, trivial⟩
  | p :: m, c :: ds, h => by
    unfold mIns insR
    have e : intK.lt d.od p.1 = decide (d.od < c.od) := by rw [h.1]; rfl
    rw [e]
    by_cases hlt : d.od < c.od
    · rw [if_pos (by simpa using hlt), if_pos hlt]
      exact ⟨rfl, hv, h⟩
    · rw [if_neg (by simpa using hlt), if_neg hlt]
      exact ⟨h.1, h.2.1, Rel.ins hv h.2.2⟩
  | [], _ :: _, h => h.elim
  | _ :: _, [], h => h.elim
theorem Rel.put {w : World} {F : Nat → Prop} {d : Row} {val : Value} (hv : RowAt w F val d) {m : List (Int × Value)} {ds : List Row} (h : Rel w F m ds) : Rel w F (mPut intK m d.od val) (putR ds d) :=
  Rel.ins hv (Rel.del _ h)

/-- a sorted list of whole numbers within bounds is short -/
theorem sorted_len (hi : Int) : ∀ (l : List Int) (lo : Int), l.Pairwise (· < ·) → (∀ x ∈ l, lo ≤ x ∧ x < hi) → lo ≤ hi → (l.length : Int) ≤ hi - lo
  | [], lo, _, _, h => by simp; omega
  | x :: r, lo, hp, hb, h => by
    rw [List.pairwise_cons] at hp
    have hx := hb x (by simp)
    have := sorted_len hi r (x + 1) hp.2 (fun y hy => ⟨by have := hp.1 y hy; omega, (hb y (List.mem_cons_of_mem _ hy)).2⟩) (by omega)
    simp only [List.length_cons, Int.natCast_add, Int.cast_ofNat_Int]
    omega
theorem GMap.keys_len {w : World} {b : Nat} {m : List (Int × Value)} (h : GMap intK w Try.prog 3 b m) (lo hi : Int) (hl : lo ≤ hi) (hb : ∀ p ∈ m, lo ≤ p.1 ∧ p.1 < hi) : (m.length : Int) ≤ hi - lo := by
  have hs := h.sorted keyedI
  have h1 : (m.map (·.1)).Pairwise (· < ·) := by
    rw [List.pairwise_map]
    exact hs.imp (fun {p q} h => by simpa [intK] using h)
  have := sorted_len hi (m.map (·.1)) lo h1 (fun x hx => by
    obtain ⟨p, hp, rfl⟩ := List.mem_map.1 hx
    exact hb p hp) hl
  simpa using this

/-- what the parcels may not share -/
def Fo (b mb : Nat) (X : Nat → Prop) (ds : List Row) (i : Nat) : Prop := i ≠ b ∧ i ≠ mb ∧ ¬ X i ∧ ∀ d ∈ ds, i ≠ d.fb
/-- the parcels of the program, in block b, the map in mb; X: blocks that others may write -/
structure PcAt (w : World) (base b mb : Nat) (X : Nat → Prop) (ds : List Row) : Prop where
  ob : Ob w b 94 #[.map (some mb)]
  map : ∃ m, GMap intK w Try.prog 3 mb m ∧ Rel w (Fo b mb X ds) m ds
  frm : ∀ d ∈ ds, GMap intK w Try.prog 3 d.fb d.fr
  apart : Apart ds
  sep : ∀ d ∈ ds, d.fb ≠ b ∧ d.fb ≠ mb ∧ ¬ X d.fb ∧ base ≤ d.fb
  ne : b ≠ mb
  lo : base ≤ b ∧ base ≤ mb
  nx : ¬ X b ∧ ¬ X mb
  xl : ∀ i, X i → i < w.heap.size
  ok : ∀ d ∈ ds, OkR d
theorem PcAt.keep {w w' : World} {base b mb : Nat} {X : Nat → Prop} {ds : List Row} (h : PcAt w base b mb X ds) (hk : Kept (fun i => i < w.heap.size ∧ ¬ X i) w w') : PcAt w' base b mb X ds := by
  obtain ⟨m, hm, hR⟩ := h.map
  refine ⟨hk.ob h.ob ⟨h.ob.lt, h.nx.1⟩, ⟨m, ?_, hR.keep hk fun i hi hf => ⟨⟨hi, hf.2.2.1⟩, hf⟩⟩, fun d hd => ?_, h.apart, h.sep, h.ne, h.lo, h.nx, fun i hi => Nat.lt_of_lt_of_le (h.xl i hi) hk.size, h.ok⟩
  · have hl := GMap.lt hm
    obtain ⟨es, clock, h1, F, h2, e⟩ := hm
    exact ⟨es, clock, (hk.block mb ⟨hl, h.nx.2⟩).trans h1, F, h2, e⟩
  · have hd2 := h.frm d hd
    obtain ⟨es, clock, h1, F, h2, e⟩ := hd2
    exact ⟨es, clock, (hk.block d.fb ⟨GMap.lt (h.frm d hd), (h.sep d hd).2.2.1⟩).trans h1, F, h2, e⟩
theorem PcAt.same {w w' : World} {base b mb : Nat} {X : Nat → Prop} {ds : List Row} (h : PcAt w base b mb X ds) (hb : Below w.heap.size w w') : PcAt w' base b mb X ds := h.keep (Kept.of_below hb fun _ hi => hi.1)
/-- others may write more blocks, if they are new to it -/
theorem PcAt.more {w w' : World} {base b mb : Nat} {X X' : Nat → Prop} {ds : List Row} (h : PcAt w base b mb X ds) (hb : Below w.heap.size w w') (hX : ∀ i, X' i → (X i ∨ w.heap.size ≤ i) ∧ i < w'.heap.size) : PcAt w' base b mb X' ds := by
  have h1 := h.same hb
  obtain ⟨m, hm, hR⟩ := h.map
  have hb1 := h.ob.lt
  have hb2 := GMap.lt hm
  have hn : ∀ i, i < w.heap.size → ¬ X i → ¬ X' i := fun i hi hx hx' => by
    rcases (hX i hx').1 with h | h
    · exact hx h
    · omega
  exact ⟨h1.ob, ⟨m, hm.below hb hb2, hR.keep (Kept.of_below hb (Fr := fun i => i < w.heap.size) fun _ hi => hi) fun i hi hf => ⟨hi, hf.1, hf.2.1, hn i hi hf.2.2.1, hf.2.2.2⟩⟩, h1.frm, h.apart, fun d hd => ⟨(h.sep d hd).1, (h.sep d hd).2.1, hn _ (GMap.lt (h.frm d hd)) (h.sep d hd).2.2.1, (h.sep d hd).2.2.2⟩, h.ne, h.lo, ⟨hn b hb1 h.nx.1, hn mb hb2 h.nx.2⟩, fun i hi => (hX i hi).2, h.ok⟩

/-- what a call on the parcels leaves alone -/
def Other (mb : Nat) (ds : List Row) (w w' : World) : Prop := Kept (fun i => i < w.heap.size ∧ i ≠ mb ∧ ∀ d ∈ ds, i ≠ d.fb) w w'
theorem Other.below {base b mb : Nat} {X : Nat → Prop} {ds : List Row} {w0 w w' : World} (h : Other mb ds w w') (hP : PcAt w base b mb X ds) {B : Nat} (hB : B ≤ base) (h0 : Below B w0 w) (hs : B ≤ w0.heap.size) : Below B w0 w' := by
  have h2 : Below B w w' := Kept.below h fun i hi => ⟨by have := h0.size; omega, by have := hP.lo.2; omega, fun d hd => by have := (hP.sep d hd).2.2.2; omega⟩
  exact h0.trans h2
theorem Other.of_below {mb : Nat} {ds : List Row} {w w' : World} (h : Below w.heap.size w w') : Other mb ds w w' := Kept.of_below h fun _ hi => hi.1
theorem Other.ob {mb : Nat} {ds : List Row} {w w' : World} (h : Other mb ds w w') {i : Nat} {t : TypeId} {cs : Array Value} (ho : Ob w i t cs) (h1 : i ≠ mb) (h2 : ∀ d ∈ ds, i ≠ d.fb) : Ob w' i t cs := Kept.ob h ho ⟨ho.lt, h1, h2⟩
theorem Other.gmap {κ : Type} [DecidableEq κ] {K : KeyK κ} {mb : Nat} {ds : List Row} {w w' : World} (h : Other mb ds w w') {i : Nat} {t : TypeId} {m : List (κ × Value)} (ho : GMap K w Try.prog t i m) (h1 : i ≠ mb) (h2 : ∀ d ∈ ds, i ≠ d.fb) : GMap K w' Try.prog t i m := by
  have hl := ho.lt
  obtain ⟨es, clock, h3, F, h4, e⟩ := ho
  exact ⟨es, clock, (Kept.block h i ⟨hl, h1, h2⟩).trans h3, F, h4, e⟩
end Pc
end Go.Proofs.Ytdbkkldgobkjcaa
