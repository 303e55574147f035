/-
  parcels: what they are, and what each call makes of them: plain.
  parcels in memory.
  parcels: New, made, Len, row, within.
  parcels: copied, Parcel, Left.
  parcels: Left, Open.
  parcels: Ship.
-/
import Derived.Test.YtdbkkldgobkjcaaGreatMz7
import Derived.Test.YtdbkkldgobkjcaaGreatMz5
import Derived.Test.YtdbkkldgobkjcaaGreatMz9
import Derived.Deep.RegionHeld3

set_option linter.unusedVariables false
set_option linter.unusedSimpArgs false
namespace Go.Proofs.YtdbkkldgobkjcaaGreat
open Go.RowKit Go.Maps
namespace Pc
open It Mv

/-- a parcel: its order, its three lists, the map of regions it was shipped from, that map's block -/
structure Row where
  od : Int
  wa : List It.Item
  sh : List It.Item
  ba : List It.Item
  fr : List (Int × Value)
  fb : Nat
/-- what may stand in a table of parcels -/
structure OkR (d : Row) : Prop where
  od : 1 ≤ d.od ∧ d.od ≤ 1099511627776
  wa : M d.wa
  some : d.wa ≠ []
  sh : M d.sh
  ba : M d.ba
  cs : covers d.wa d.sh = true
  cb : covers d.sh d.ba = true
  fr : ∀ p ∈ d.fr, 0 ≤ p.1 ∧ p.1 ≤ 7 ∧ p.2 = .bool true

def findR (ds : List Row) (k : Int) : Option Row := ds.find? fun d => decide (d.od = k)
theorem findR_cons (d : Row) (ds : List Row) (k : Int) : findR (d :: ds) k = if d.od = k then some d else findR ds k := by
  unfold findR
  rw [List.find?_cons]
  by_cases h : d.od = k <;> simp [h]
theorem findR_mem {ds : List Row} {k : Int} {d : Row} (h : findR ds k = some d) : d ∈ ds ∧ d.od = k := by
  unfold findR at h
  exact ⟨List.mem_of_find?_eq_some h, by simpa using List.find?_some h⟩
def insR (d : Row) : List Row → List Row
  | [] => [d]
  | c :: r => if d.od < c.od then d :: c :: r else c :: insR d r
def delR (ds : List Row) (k : Int) : List Row := ds.filter fun d => !decide (d.od = k)
def putR (ds : List Row) (d : Row) : List Row := insR d (delR ds d.od)
theorem insR_perm (d : Row) : ∀ ds : List Row, (insR d ds).Perm (d :: ds)
  | [] => List.Perm.refl _
  | c :: r => by
    unfold insR
    split
    · exact List.Perm.refl _
    · exact ((insR_perm d r).cons c).trans (List.Perm.swap d c r)
theorem delR_mem {ds : List Row} {k : Int} {x : Row} (h : x ∈ delR ds k) : x ∈ ds ∧ x.od ≠ k := by
  have := List.mem_filter.1 h
  exact ⟨this.1, by simpa using this.2⟩
theorem putR_mem {d x : Row} {ds : List Row} (h : x ∈ putR ds d) : x = d ∨ (x ∈ ds ∧ x.od ≠ d.od) := by
  have h1 := (insR_perm d (delR ds d.od)).mem_iff.1 h
  rcases List.mem_cons.1 h1 with h | h
  · exact .inl h
  · exact .inr (delR_mem h)
theorem putR_self (d : Row) (ds : List Row) : d ∈ putR ds d := (insR_perm d (delR ds d.od)).mem_iff.2 (by simp)
theorem findR_ins_same {d : Row} : ∀ {ds : List Row}, findR ds d.od = none → findR (insR d ds) d.od = some d
  | [], _ => by rw [insR, findR_cons, if_pos rfl]
  | c :: r, h => by
    rw [findR_cons] at h
    by_cases e : c.od = d.od
    · rw [if_pos e] at h; cases h
    · rw [if_neg e] at h
      unfold insR
      split
      · rw [findR_cons, if_pos rfl]
      · rw [findR_cons, if_neg e]
        exact findR_ins_same h
theorem findR_ins_other {d : Row} {k : Int} (hk : d.od ≠ k) : ∀ {ds : List Row}, findR (insR d ds) k = findR ds k
  | [] => by rw [insR, findR_cons, if_neg hk]
  | c :: r => by
    unfold insR
    split
    · rw [findR_cons, if_neg hk]
    · rw [findR_cons, findR_cons, findR_ins_other hk]
theorem findR_del_same (k : Int) : ∀ (ds : List Row), findR (delR ds k) k = none
  | [] => rfl
  | c :: r => by
    unfold delR
    rw [List.filter_cons]
    split
    · rename_i h
      rw [findR_cons, if_neg (by simpa using h)]
      exact findR_del_same k r
    · exact findR_del_same k r
theorem findR_del_other {j k : Int} (hne : k ≠ j) : ∀ (ds : List Row), findR (delR ds j) k = findR ds k
  | [] => rfl
  | c :: r => by
    unfold delR
    rw [List.filter_cons]
    split
    · rw [findR_cons, findR_cons]
      rw [show findR (r.filter _) k = findR r k from findR_del_other hne r]
    · rename_i h
      rw [findR_cons, if_neg (by simp at h; omega)]
      exact findR_del_other hne r
theorem findR_put (ds : List Row) (d : Row) (k : Int) : findR (putR ds d) k = if d.od = k then some d else findR ds k := by
  unfold putR
  by_cases e : d.od = k
  · rw [if_pos e, ← e]
    exact findR_ins_same (findR_del_same _ _)
  · rw [if_neg e, findR_ins_other e, findR_del_other (fun h => e h.symm)]

/-- the blocks of the maps are different ones -/
def Apart (ds : List Row) : Prop := ds.Pairwise fun c d => c.fb ≠ d.fb
theorem Apart.mem {ds : List Row} (h : Apart ds) : ∀ {c d : Row}, c ∈ ds → d ∈ ds → c ≠ d → c.fb ≠ d.fb := by
  unfold Apart at h
  induction ds with
  | nil => intro c d hc; cases hc
  | cons x r ih =>
    intro c d hc hd hne
    rw [List.pairwise_cons] at h
    rcases List.mem_cons.1 hc with e1 | h1
    · rcases List.mem_cons.1 hd with e2 | h2
      · exact (hne (e1.trans e2.symm)).elim
      · rw [e1]; exact h.1 d h2
    · rcases List.mem_cons.1 hd with e2 | h2
      · rw [e2]; exact fun e => h.1 c h1 e.symm
      · exact ih h.2 h1 h2 hne
theorem Apart.put {ds : List Row} (h : Apart ds) {d : Row} (hd : ∀ c ∈ ds, c.od ≠ d.od → c.fb ≠ d.fb) : Apart (putR ds d) := by
  unfold Apart putR at *
  refine (insR_perm d (delR ds d.od)).symm.pairwise (List.pairwise_cons.2 ⟨fun c hc => ?_, List.Pairwise.sublist List.filter_sublist h⟩) (fun h e => h e.symm)
  have := delR_mem hc
  exact fun e => hd c this.1 this.2 e.symm

def openOf (ds : List Row) (od : Int) (wa : List It.Item) (fb : Nat) : List Row × Int :=
  if od < 1 ∨ 1099511627776 < od then (ds, 1)
  else if may wa = false ∨ wa = [] then (ds, 60)
  else if (findR ds od).isSome then (ds, 5)
  else (putR ds ⟨od, wa, [], [], [], fb⟩, 0)
def rowCode (ds : List Row) (od : Int) (l : List It.Item) : Int := if (findR ds od).isSome then (if may l then 0 else 60) else 4
/-- two lists together, if another one covers them -/
def withinOf (all a b : List It.Item) : List It.Item × Int := if (plusOf a b).2 = 0 ∧ covers all (plusOf a b).1 = true then ((plusOf a b).1, 0) else ([], 50)
def isIn (d : Row) (r : Int) : Bool := (mGet d.fr r).isSome
def shipOf (ds : List Row) (od r : Int) (l : List It.Item) : List Row × Int :=
  if r < 0 ∨ 8 ≤ r then (ds, 1)
  else match findR ds od with
  | none => (ds, 4)
  | some d =>
    if may l = false then (ds, 60)
    else if isIn d r then (ds, 5)
    else if (withinOf d.wa d.sh l).2 = 0 then (putR ds { d with sh := (withinOf d.wa d.sh l).1, fr := mPut intK d.fr r (.bool true) }, 0)
    else (ds, (withinOf d.wa d.sh l).2)
def backOf (ds : List Row) (od : Int) (l : List It.Item) : List Row × Int := match findR ds od with
  | none => (ds, 4)
  | some d =>
    if may l = false then (ds, 60)
    else if (withinOf d.sh d.ba l).2 = 0 then (putR ds { d with ba := (withinOf d.sh d.ba l).1 }, 0)
    else (ds, (withinOf d.sh d.ba l).2)
def undoOf (ds : List Row) (od : Int) (l : List It.Item) : List Row × Int := match findR ds od with
  | none => (ds, 4)
  | some d =>
    if may l = false then (ds, 60)
    else if (minusOf d.ba l).2 = 0 then (putR ds { d with ba := (minusOf d.ba l).1 }, 0)
    else (ds, (minusOf d.ba l).2)

theorem covers_nil {a : List It.Item} (ha : M a) : covers a [] = true := (covers_iff ha ((may_iff []).1 (by decide +kernel))).2 fun k => by simpa [tot] using ha.nonneg k
theorem within_ok {all a b : List It.Item} (ha : M a) (hb : M b) (h : (withinOf all a b).2 = 0) :
    M (withinOf all a b).1 ∧ covers all (withinOf all a b).1 = true ∧ (withinOf all a b).1 = (plusOf a b).1 ∧ (∀ k, tot k (withinOf all a b).1 = tot k a + tot k b) := by
  unfold withinOf at h ⊢
  split
  · rename_i hc
    obtain ⟨h1, h2⟩ := plus_cases ha hb hc.1
    exact ⟨h1, hc.2, rfl, h2⟩
  · rename_i hc
    rw [if_neg hc] at h
    simp at h
theorem ofSum_within {all a b : List It.Item} (ha : M a) (hb : M b) (h : (withinOf all a b).2 = 0) (s : ByteArray) :
    ofSum s (withinOf all a b).1 = ofSum s a + ofSum s b := by
  obtain ⟨h1, -, -, h2⟩ := within_ok ha hb h
  rw [h1.of, ha.of, hb.of]
  exact h2 _
theorem ofSum_covers {a b : List It.Item} (ha : M a) (hb : M b) (h : covers a b = true) (s : ByteArray) : ofSum s b ≤ ofSum s a := by
  rw [ha.of, hb.of]
  exact (covers_iff ha hb).1 h _
theorem minus_ok {a b : List It.Item} (ha : M a) (hb : M b) (h : (minusOf a b).2 = 0) : M (minusOf a b).1 ∧ covers a (minusOf a b).1 = true := by
  have e1 : minusOf a b = if covers a b then (both restF a b, 0) else ([], 51) := by unfold minusOf; rw [(may_iff a).2 ha, (may_iff b).2 hb]; rfl
  rw [e1] at h ⊢
  cases hc : covers a b with
  | false => rw [hc] at h; simp at h
  | true =>
    simp only [if_true]
    rw [both_of ha hb]
    refine ⟨rest_M ha hb, (covers_iff ha (rest_M ha hb)).2 fun k => ?_⟩
    rw [rest_tot ha hb]
    have := ha.nonneg k
    have := hb.nonneg k
    omega
end Pc
end Go.Proofs.YtdbkkldgobkjcaaGreat

namespace Go.Proofs.YtdbkkldgobkjcaaGreat
open Go.RowKit Go.Maps
namespace Pc
open It Mv

/-- a list of items, in blocks of F -/
def LiAt (w : World) (F : Nat → Prop) (v : Value) (l : List It.Item) : Prop := ∃ lo B, ItemsAt w lo B v l ∧ B ≤ w.heap.size ∧ ∀ i, lo ≤ i → i < B → F i
theorem LiAt.keep {w w' : World} {F F' Fr : Nat → Prop} {v : Value} {l : List It.Item} (h : LiAt w F v l) (hk : Kept Fr w w') (hF : ∀ i, i < w.heap.size → F i → Fr i ∧ F' i) : LiAt w' F' v l := by
  obtain ⟨lo, B, h1, h2, h3⟩ := h
  exact ⟨lo, B, hk.sl h1 (fun i a b => (hF i (by omega) (h3 i a b)).1), Nat.le_trans h2 hk.size, fun i a b => (hF i (by omega) (h3 i a b)).2⟩
theorem LiAt.items {w : World} {F : Nat → Prop} {v : Value} {l : List It.Item} (h : LiAt w F v l) : ItemsAt w 0 w.heap.size v l := by
  obtain ⟨lo, B, h1, h2, h3⟩ := h
  exact h1.wide (Nat.zero_le _) h2
theorem LiAt.nil (w : World) (F : Nat → Prop) : LiAt w F (.slice none 0 0) [] := ⟨0, 0, ItemsAt.nil _ _ _, Nat.zero_le _, fun i _ h => by omega⟩
theorem LiAt.of_own {w : World} {F : Nat → Prop} {lo : Nat} {v : Value} {l : List It.Item} (h : w.ownsRow lo 37 2 v l.length (itemCells l)) (hF : ∀ i, lo ≤ i → i < w.heap.size → F i) : LiAt w F v l :=
  ⟨lo, w.heap.size, ItemsAt.of_own h, Nat.le_refl _, hF⟩

def rowV (d : Row) (v1 v2 v3 : Value) : Value := .agg #[.int .i64 d.od, v1, v2, v3, .map (some d.fb)]
def RowAt (w : World) (F : Nat → Prop) (val : Value) (d : Row) : Prop := ∃ v1 v2 v3, val = rowV d v1 v2 v3 ∧ LiAt w F v1 d.wa ∧ LiAt w F v2 d.sh ∧ LiAt w F v3 d.ba
theorem RowAt.keep {w w' : World} {F F' Fr : Nat → Prop} {val : Value} {d : Row} (h : RowAt w F val d) (hk : Kept Fr w w') (hF : ∀ i, i < w.heap.size → F i → Fr i ∧ F' i) : RowAt w' F' val d := by
  obtain ⟨v1, v2, v3, e, h1, h2, h3⟩ := h
  exact ⟨v1, v2, v3, e, h1.keep hk hF, h2.keep hk hF, h3.keep hk hF⟩

/-- a map's entries and the parcels that they are -/
def Rel (w : World) (F : Nat → Prop) : List (Int × Value) → List Row → Prop
  | [], [] => True
  | p :: m, d :: ds => p.1 = d.od ∧ RowAt w F p.2 d ∧ Rel w F m ds
  | _, _ => False
theorem Rel.keep {w w' : World} {F F' Fr : Nat → Prop} (hk : Kept Fr w w') (hF : ∀ i, i < w.heap.size → F i → Fr i ∧ F' i) : ∀ {m : List (Int × Value)} {ds : List Row}, Rel w F m ds → Rel w' F' m ds
  | [], [], _ => trivial
  | _ :: _, _ :: _, h => ⟨h.1, h.2.1.keep hk hF, Rel.keep hk hF h.2.2⟩
  | [], _ :: _, h => h.elim
  | _ :: _, [], h => h.elim
theorem Rel.length {w : World} {F : Nat → Prop} : ∀ {m : List (Int × Value)} {ds : List Row}, Rel w F m ds → m.length = ds.length
  | [], [], _ => rfl
  | _ :: _, _ :: _, h => congrArg (· + 1) (Rel.length h.2.2)
  | [], _ :: _, h => h.elim
  | _ :: _, [], h => h.elim
theorem Rel.keys {w : World} {F : Nat → Prop} : ∀ {m : List (Int × Value)} {ds : List Row}, Rel w F m ds → m.map (·.1) = ds.map (·.od)
  | [], [], _ => rfl
  | _ :: _, _ :: _, h => by simp only [List.map_cons]; rw [h.1, Rel.keys h.2.2]
  | [], _ :: _, h => h.elim
  | _ :: _, [], h => h.elim
theorem Rel.none {w : World} {F : Nat → Prop} {k : Int} : ∀ {m : List (Int × Value)} {ds : List Row}, Rel w F m ds → findR ds k = none → mGet m k = none
  | [], [], _, _ => rfl
  | p :: m, d :: ds, h, hf => by
    rw [findR_cons] at hf
    rw [mGet_cons]
    by_cases e : d.od = k
    · rw [if_pos e] at hf; cases hf
    · rw [if_neg e] at hf
      rw [if_neg (by rw [h.1]; exact e)]
      exact Rel.none h.2.2 hf
  | [], _ :: _, h, _ => h.elim
  | _ :: _, [], h, _ => h.elim
theorem Rel.some {w : World} {F : Nat → Prop} {k : Int} {d : Row} : ∀ {m : List (Int × Value)} {ds : List Row}, Rel w F m ds → findR ds k = some d → ∃ val, mGet m k = some val ∧ RowAt w F val d
  | [], [], _, h => by cases h
  | p :: m, c :: ds, h, hf => by
    rw [findR_cons] at hf
    rw [mGet_cons]
    by_cases e : c.od = k
    · rw [if_pos e] at hf
      cases hf
      rw [if_pos (by rw [h.1]; exact e)]
      exact ⟨_, rfl, h.2.1⟩
    · rw [if_neg e] at hf
      rw [if_neg (by rw [h.1]; exact e)]
      exact Rel.some h.2.2 hf
  | [], _ :: _, h, _ => h.elim
  | _ :: _, [], h, _ => h.elim
theorem Rel.del {w : World} {F : Nat → Prop} (k : Int) : ∀ {m : List (Int × Value)} {ds : List Row}, Rel w F m ds → Rel w F (mDel m k) (delR ds k)
  | [], [], _ => trivial
  | p :: m, d :: ds, h => by
    have ih := Rel.del k h.2.2
    unfold mDel delR at ih ⊢
    rw [List.filter_cons, List.filter_cons, h.1]
    split
    · exact ⟨h.1, h.2.1, ih⟩
    · exact ih
  | [], _ :: _, h => h.elim
  | _ :: _, [], h => h.elim
theorem Rel.ins {w : World} {F : Nat → Prop} {d : Row} {val : Value} (hv : RowAt w F val d) : ∀ {m : List (Int × Value)} {ds : List Row}, Rel w F m ds → Rel w F (mIns intK d.od val m) (insR d ds)
  | [], [], _ => ⟨rfl, hv, trivial⟩
  | p :: m, c :: ds, h => by
    unfold mIns insR
    have e : intK.lt d.od p.1 = decide (d.od < c.od) := by rw [h.1]; rfl
    rw [e]
    by_cases hlt : d.od < c.od
    · rw [if_pos (by simpa using hlt), if_pos hlt]
      exact ⟨rfl, hv, h⟩
    · rw [if_neg (by simpa using hlt), if_neg hlt]
      exact ⟨h.1, h.2.1, Rel.ins hv h.2.2⟩
  | [], _ :: _, h => h.elim
  | _ :: _, [], h => h.elim
theorem Rel.put {w : World} {F : Nat → Prop} {d : Row} {val : Value} (hv : RowAt w F val d) {m : List (Int × Value)} {ds : List Row} (h : Rel w F m ds) : Rel w F (mPut intK m d.od val) (putR ds d) :=
  Rel.ins hv (Rel.del _ h)

/-- a sorted list of whole numbers within bounds is short -/
theorem sorted_len (hi : Int) : ∀ (l : List Int) (lo : Int), l.Pairwise (· < ·) → (∀ x ∈ l, lo ≤ x ∧ x < hi) → lo ≤ hi → (l.length : Int) ≤ hi - lo
  | [], lo, _, _, h => by simp; omega
  | x :: r, lo, hp, hb, h => by
    rw [List.pairwise_cons] at hp
    have hx := hb x (by simp)
    have := sorted_len hi r (x + 1) hp.2 (fun y hy => ⟨by have := hp.1 y hy; omega, (hb y (List.mem_cons_of_mem _ hy)).2⟩) (by omega)
    simp only [List.length_cons, Int.natCast_add, Int.cast_ofNat_Int]
    omega
theorem GMap.keys_len {w : World} {b : Nat} {m : List (Int × Value)} (h : GMap intK w Tryz.prog 3 b m) (lo hi : Int) (hl : lo ≤ hi) (hb : ∀ p ∈ m, lo ≤ p.1 ∧ p.1 < hi) : (m.length : Int) ≤ hi - lo := by
  have hs := h.sorted keyedI
  have h1 : (m.map (·.1)).Pairwise (· < ·) := by
    rw [List.pairwise_map]
    exact hs.imp (fun {p q} h => by simpa [intK] using h)
  have := sorted_len hi (m.map (·.1)) lo h1 (fun x hx => by
    obtain ⟨p, hp, rfl⟩ := List.mem_map.1 hx
    exact hb p hp) hl
  simpa using this

/-- what the parcels may not share -/
def Fo (b mb : Nat) (X : Nat → Prop) (ds : List Row) (i : Nat) : Prop := i ≠ b ∧ i ≠ mb ∧ ¬ X i ∧ ∀ d ∈ ds, i ≠ d.fb
/-- the parcels of the program, in block b, the map in mb; X: blocks that others may write -/
structure PcAt (w : World) (base b mb : Nat) (X : Nat → Prop) (ds : List Row) : Prop where
  ob : Ob w b 80 #[.map (some mb)]
  map : ∃ m, GMap intK w Tryz.prog 3 mb m ∧ Rel w (Fo b mb X ds) m ds
  frm : ∀ d ∈ ds, GMap intK w Tryz.prog 3 d.fb d.fr
  apart : Apart ds
  sep : ∀ d ∈ ds, d.fb ≠ b ∧ d.fb ≠ mb ∧ ¬ X d.fb ∧ base ≤ d.fb
  ne : b ≠ mb
  lo : base ≤ b ∧ base ≤ mb
  nx : ¬ X b ∧ ¬ X mb
  xl : ∀ i, X i → i < w.heap.size
  ok : ∀ d ∈ ds, OkR d
theorem PcAt.keep {w w' : World} {base b mb : Nat} {X : Nat → Prop} {ds : List Row} (h : PcAt w base b mb X ds) (hk : Kept (fun i => i < w.heap.size ∧ ¬ X i) w w') : PcAt w' base b mb X ds := by
  obtain ⟨m, hm, hR⟩ := h.map
  refine ⟨hk.ob h.ob ⟨h.ob.lt, h.nx.1⟩, ⟨m, ?_, hR.keep hk fun i hi hf => ⟨⟨hi, hf.2.2.1⟩, hf⟩⟩, fun d hd => ?_, h.apart, h.sep, h.ne, h.lo, h.nx, fun i hi => Nat.lt_of_lt_of_le (h.xl i hi) hk.size, h.ok⟩
  · have hl := GMap.lt hm
    obtain ⟨es, clock, h1, F, h2, e⟩ := hm
    exact ⟨es, clock, (hk.block mb ⟨hl, h.nx.2⟩).trans h1, F, h2, e⟩
  · have hd2 := h.frm d hd
    obtain ⟨es, clock, h1, F, h2, e⟩ := hd2
    exact ⟨es, clock, (hk.block d.fb ⟨GMap.lt (h.frm d hd), (h.sep d hd).2.2.1⟩).trans h1, F, h2, e⟩
theorem PcAt.same {w w' : World} {base b mb : Nat} {X : Nat → Prop} {ds : List Row} (h : PcAt w base b mb X ds) (hb : Below w.heap.size w w') : PcAt w' base b mb X ds := h.keep (Kept.of_below hb fun _ hi => hi.1)
/-- others may write more blocks, if they are new to it -/
theorem PcAt.more {w w' : World} {base b mb : Nat} {X X' : Nat → Prop} {ds : List Row} (h : PcAt w base b mb X ds) (hb : Below w.heap.size w w') (hX : ∀ i, X' i → (X i ∨ w.heap.size ≤ i) ∧ i < w'.heap.size) : PcAt w' base b mb X' ds := by
  have h1 := h.same hb
  obtain ⟨m, hm, hR⟩ := h.map
  have hb1 := h.ob.lt
  have hb2 := GMap.lt hm
  have hn : ∀ i, i < w.heap.size → ¬ X i → ¬ X' i := fun i hi hx hx' => by
    rcases (hX i hx').1 with h | h
    · exact hx h
    · omega
  exact ⟨h1.ob, ⟨m, hm.below hb hb2, hR.keep (Kept.of_below hb (Fr := fun i => i < w.heap.size) fun _ hi => hi) fun i hi hf => ⟨hi, hf.1, hf.2.1, hn i hi hf.2.2.1, hf.2.2.2⟩⟩, h1.frm, h.apart, fun d hd => ⟨(h.sep d hd).1, (h.sep d hd).2.1, hn _ (GMap.lt (h.frm d hd)) (h.sep d hd).2.2.1, (h.sep d hd).2.2.2⟩, h.ne, h.lo, ⟨hn b hb1 h.nx.1, hn mb hb2 h.nx.2⟩, fun i hi => (hX i hi).2, h.ok⟩

/-- what a call on the parcels leaves alone -/
def Other (mb : Nat) (ds : List Row) (w w' : World) : Prop := Kept (fun i => i < w.heap.size ∧ i ≠ mb ∧ ∀ d ∈ ds, i ≠ d.fb) w w'
theorem Other.below {base b mb : Nat} {X : Nat → Prop} {ds : List Row} {w0 w w' : World} (h : Other mb ds w w') (hP : PcAt w base b mb X ds) {B : Nat} (hB : B ≤ base) (h0 : Below B w0 w) (hs : B ≤ w0.heap.size) : Below B w0 w' := by
  have h2 : Below B w w' := Kept.below h fun i hi => ⟨by have := h0.size; omega, by have := hP.lo.2; omega, fun d hd => by have := (hP.sep d hd).2.2.2; omega⟩
  exact h0.trans h2
theorem Other.of_below {mb : Nat} {ds : List Row} {w w' : World} (h : Below w.heap.size w w') : Other mb ds w w' := Kept.of_below h fun _ hi => hi.1
theorem Other.ob {mb : Nat} {ds : List Row} {w w' : World} (h : Other mb ds w w') {i : Nat} {t : TypeId} {cs : Array Value} (ho : Ob w i t cs) (h1 : i ≠ mb) (h2 : ∀ d ∈ ds, i ≠ d.fb) : Ob w' i t cs := Kept.ob h ho ⟨ho.lt, h1, h2⟩
theorem Other.gmap {κ : Type} [DecidableEq κ] {K : KeyK κ} {mb : Nat} {ds : List Row} {w w' : World} (h : Other mb ds w w') {i : Nat} {t : TypeId} {m : List (κ × Value)} (ho : GMap K w Tryz.prog t i m) (h1 : i ≠ mb) (h2 : ∀ d ∈ ds, i ≠ d.fb) : GMap K w' Tryz.prog t i m := by
  have hl := ho.lt
  obtain ⟨es, clock, h3, F, h4, e⟩ := ho
  exact ⟨es, clock, (Kept.block h i ⟨hl, h1, h2⟩).trans h3, F, h4, e⟩
end Pc
end Go.Proofs.YtdbkkldgobkjcaaGreat

namespace Go.Proofs.YtdbkkldgobkjcaaGreat
open Go.RowKit Go.Maps
namespace Pc
open It Mv

def zrow : Value := .agg #[.int .i64 0, .slice none 0 0, .slice none 0 0, .slice none 0 0, .map none]
theorem zeroR (w : World) : (zeroValue 87).run Tryz.prog w = .ok zrow w := by kernel_rfl

theorem new_calls (w : World) :
    Calls Tryz.prog 7 #[] w fun e w' => (∃ b mb, e = .returned (.pointer (some ⟨b, 0, none⟩)) ∧ ∀ X : Nat → Prop, (∀ i, X i → i < w.heap.size) → PcAt w' w.heap.size b mb X []) ∧ Below w.heap.size w w' := by
  have hmm := @run_makeMap Tryz.prog
  go_enter Tryz.func7, Tryz.ntmps7
  go_wp2
  go_ret
  have h1 : Below w.heap.size w ((w.alloc (.map #[] 0)).alloc (.cells #[.map (some w.heap.size)] 80)) := ((Below.refl _ w).alloc (Nat.le_refl _) _).alloc (by simp) _
  refine ⟨⟨w.heap.size + 1, w.heap.size, rfl, fun X hX => ⟨?_, ⟨[], ?_, trivial⟩, fun d hd => (by cases hd), List.Pairwise.nil, fun d hd => (by cases hd), by omega, ⟨by omega, by omega⟩, ⟨fun h => by have := hX _ h; omega, fun h => by have := hX _ h; omega⟩, fun i hi => by have := hX i hi; have := h1.size; omega, fun d hd => (by cases hd)⟩⟩, h1⟩
  · have := Ob.new (w.alloc (.map #[] 0)) 80 #[.map (some w.heap.size)]
    rwa [World.size_alloc] at this
  · exact (GMap.made (K := intK) w Tryz.prog 3).below ((Below.refl (w.heap.size + 1) _).alloc (by simp) _) (by omega)

theorem made_calls (b mb : Nat) (w : World) (h : w.cell? ⟨b, 0, none⟩ = some (.map (some mb))) :
    Calls Tryz.prog 43 #[.pointer (some ⟨b, 0, none⟩)] w fun e w' => e = .returned (.bool true) ∧ w = w' := by
  have hn := fun (w : World) (r : Option Nat) => run_neq_map_nil (P := Tryz.prog) w 78 _ _ r Tryz.underlying78
  go_enter Tryz.func43, Tryz.ntmps43
  go_wp2
  go_ret
  exact ⟨rfl, rfl⟩
theorem made_nil (w : World) :
    Calls Tryz.prog 43 #[.pointer none] w fun e w' => e = .returned (.bool false) ∧ w = w' := by
  go_enter Tryz.func43, Tryz.ntmps43
  go_wp2
  go_ret
  exact ⟨rfl, rfl⟩
theorem len_calls (base b mb : Nat) (X : Nat → Prop) (ds : List Row) (w : World) (h : PcAt w base b mb X ds) :
    Calls Tryz.prog 42 #[.pointer (some ⟨b, 0, none⟩)] w fun e w' => e = .returned (.int .i64 ds.length) ∧ w = w' := by
  obtain ⟨m, hm, hR⟩ := h.map
  have g0 : w.cell? ⟨b, 0, none⟩ = some (.map (some mb)) := h.ob.cell (j := 0) rfl
  have hl := fun ty => hm.len (tm := 78) Tryz.underlying78 ty
  rw [hR.length] at hl
  have cM := Lib.hid (made_calls b mb w g0)
  clear hR hm h
  go_enter Tryz.func42, Tryz.ntmps42
  go_wp2_with fail
  refine cM.out.mono ?_
  rintro e W ⟨rfl, rfl⟩
  go_wp2
  go_ret
  exact ⟨rfl, rfl⟩

/-- lists that fit -/
theorem fits_of {l : List It.Item} (h : M l) : Fits l := fun x hx => by
  have h1 := h.ok x hx
  have h2 := h1.1
  unfold good at h2
  simp only [Bool.and_eq_true, decide_eq_true_eq] at h2
  refine ⟨Nat.le_trans h2.2 (by unfold maxLen; omega), by omega, by omega⟩

set_option maxRecDepth 100000 in
theorem within_calls (all a b : List It.Item) (v va vb : Value) (w : World) (h : ItemsAt w 0 w.heap.size v all) (ha : ItemsAt w 0 w.heap.size va a) (hb : ItemsAt w 0 w.heap.size vb b) (hF : Fits all) (hFa : Fits a) (hFb : Fits b) (hFp : (plusOf a b).2 = 0 → Fits (plusOf a b).1) :
    Calls Tryz.prog 48 #[v, va, vb] w fun e w' =>
      (∃ v, e = .returned (.tuple #[v, .int .i64 (withinOf all a b).2]) ∧ w'.ownsRow w.heap.size 37 2 v (withinOf all a b).1.length (itemCells (withinOf all a b).1)) ∧ Below w.heap.size w w' := by
  have cP := Lib.hid (plus_calls a b va vb w ha hb hFa hFb)
  have cC := Lib.hid (fun W vs hz hI hJ => covers_calls all (plusOf a b).1 v vs W hI hJ hF (hFp hz))
  have HI := Lib.hid h
  have HW := Lib.hid (show withinOf all a b = if (plusOf a b).2 = 0 ∧ covers all (plusOf a b).1 = true then ((plusOf a b).1, 0) else ([], 50) from rfl)
  generalize withinOf all a b = R at *
  generalize plusOf a b = S at *
  obtain ⟨sl, sc⟩ := S
  dsimp only at cP cC HW
  obtain ⟨Av, cv, rfl, -⟩ := h.form
  clear h
  by_cases hc : sc = 0
  · subst hc
    go_enter Tryz.func48, Tryz.ntmps48
    go_wp2_with fail
    refine cP.out.mono ?_
    rintro e W ⟨⟨vs, rfl, hs⟩, hb1⟩
    have HS := Lib.hid hs
    obtain ⟨As, cs, rfl, -⟩ := (toAt hs).form
    have cC2 := Lib.hid (cC.out W _ (by trivial) (HI.out.mono hb1 hb1.size) (toAt hs))
    clear hs cC cP
    cases hcv : covers all sl with
    | true =>
      obtain rfl : R = (sl, 0) := by rw [HW.out, hcv]; rfl
      rw [hcv] at cC2
      go_wp2_with fail
      refine cC2.out.mono ?_
      rintro e W2 ⟨rfl, hb2⟩
      go_wp2
      go_ret2
      exact ⟨⟨_, rfl, row_below HS.out hb2⟩, hb1.trans (hb2.mono hb1.size)⟩
    | false =>
      obtain rfl : R = ([], 50) := by rw [HW.out, hcv]; rfl
      rw [hcv] at cC2
      go_wp2_with fail
      refine cC2.out.mono ?_
      rintro e W2 ⟨rfl, hb2⟩
      go_wp2
      go_ret2
      exact ⟨⟨_, rfl, World.ownsRow_nil _ _ _ _⟩, hb1.trans (hb2.mono hb1.size)⟩
  · obtain rfl : R = ([], 50) := by rw [HW.out, if_neg (fun h => hc h.1)]
    have hcb : (sc != 0) = true := by simpa using hc
    go_enter Tryz.func48, Tryz.ntmps48
    go_wp2_with fail
    refine cP.out.mono ?_
    rintro e W ⟨⟨vs, rfl, hs⟩, hb1⟩
    obtain ⟨As, cs, rfl, -⟩ := (toAt hs).form
    clear hs
    go_wp2
    go_ret2
    exact ⟨⟨_, rfl, World.ownsRow_nil _ _ _ _⟩, hb1⟩

/-- which row a call works on -/
def rowVal (ds : List Row) (od : Int) (l : List It.Item) (m : List (Int × Value)) : Value := if rowCode ds od l = 0 then (mGet m od).getD zrow else zrow
set_option maxRecDepth 100000 in
set_option maxHeartbeats 1000000 in
theorem row_calls (od : Int) (l : List It.Item) (lv : Value) (b mb : Nat) (m : List (Int × Value)) (ds : List Row) (w : World) (g0 : w.cell? ⟨b, 0, none⟩ = some (.map (some mb))) (hbl : b < w.heap.size) (hm : GMap intK w Tryz.prog 3 mb m) (hs : (mGet m od).isSome = (findR ds od).isSome)
    (hval : ∃ x0 A1 n1 c1 A2 n2 c2 A3 n3 c3 x4, (mGet m od).getD zrow = .agg #[.int .i64 x0, .slice A1 n1 c1, .slice A2 n2 c2, .slice A3 n3 c3, .map x4]) (hI : ItemsAt w 0 w.heap.size lv l) (hF : Fits l) (h0 : -9223372036854775808 ≤ od) (h1 : od ≤ 9223372036854775807) :
    Calls Tryz.prog 47 #[.pointer (some ⟨b, 0, none⟩), .int .i64 od, lv] w fun e w' => e = .returned (.tuple #[rowVal ds od l m, .int .i64 (rowCode ds od l)]) ∧ Below w.heap.size w w' := by
  obtain ⟨x0, A1, n1, c1, A2, n2, c2, A3, n3, c3, x4, hg⟩ := hval
  have hmb := hm.lt
  have hkey := Lib.hid (keyI h0 h1)
  have hal0 := (Below.refl w.heap.size w).alloc (Nat.le_refl _) (.cells #[.int .i64 0, .slice none 0 0, .slice none 0 0, .slice none 0 0, .map none] 87)
  have hal := hal0.alloc hal0.size (.cells #[.int .i64 x0, .slice A1 n1 c1, .slice A2 n2 c2, .slice A3 n3 c3, .map x4] 87)
  have cM := Lib.hid (made_calls b mb _ ((hal0.cell (p := ⟨b, 0, none⟩) hbl).trans g0))
  have HM := Lib.hid (hm.below hal0 hmb)
  have cMay := Lib.hid (may_calls l lv _ (hI.mono hal hal.size) hF)
  have HG := Lib.hid hg
  have HS := Lib.hid hs
  have HC := Lib.hid (show rowCode ds od l = if (findR ds od).isSome then (if may l then 0 else 60) else 4 from rfl)
  have HV := Lib.hid (show rowVal ds od l m = if rowCode ds od l = 0 then (mGet m od).getD zrow else zrow from rfl)
  generalize rowVal ds od l m = RV at *
  generalize rowCode ds od l = RC at *
  generalize (findR ds od).isSome = kn at *
  have hO1 := (Ob.new w 87 #[.int .i64 0, .slice none 0 0, .slice none 0 0, .slice none 0 0, .map none]).alloc (.cells #[.int .i64 x0, .slice A1 n1 c1, .slice A2 n2 c2, .slice A3 n3 c3, .map x4] 87)
  have hO2 := Ob.new (w.alloc (.cells #[.int .i64 0, .slice none 0 0, .slice none 0 0, .slice none 0 0, .map none] 87)) 87 #[.int .i64 x0, .slice A1 n1 c1, .slice A2 n2 c2, .slice A3 n3 c3, .map x4]
  rw [World.size_alloc] at hO2
  obtain ⟨Al, cl, rfl, -⟩ := hI.form
  clear hg hs hI hm
  cases kn with
  | false =>
    obtain rfl : RC = 4 := by rw [HC.out]; rfl
    obtain rfl : RV = zrow := by rw [HV.out]; rfl
    go_enter Tryz.func47, Tryz.ntmps47
    go_wp2_with (first
      | (go_at_call 43; refine cM.out.mono ?_; rintro e W ⟨rfl, rfl⟩)
      | (at_lookup; refine wpList_look_ok_g rfl (.tmp 18) (.tmp 19) _ rfl 3 _ keyedI Tryz.underlying78 rfl HM.out (zeroR _) _ _ rfl hkey.out _ _ HG.out HS.out ?_))
    obtain ⟨q0, q1, q2, q3, q4⟩ := hO1.five
    refine bodyPost_ret (v := .tuple #[zrow, .int .i64 4]) ?_ rfl ⟨rfl, hal⟩
    simp [results, Tryz.f47, go_sem, q0, q1, q2, q3, q4, zrow]
  | true =>
    cases hml : may l with
    | false =>
      rw [hml] at cMay
      obtain rfl : RC = 60 := by rw [HC.out, hml]; rfl
      obtain rfl : RV = zrow := by rw [HV.out]; rfl
      clear hml
      go_enter Tryz.func47, Tryz.ntmps47
      go_wp2_with (first
        | (go_at_call 43; refine cM.out.mono ?_; rintro e W ⟨rfl, rfl⟩)
        | (at_lookup; refine wpList_look_ok_g rfl (.tmp 18) (.tmp 19) _ rfl 3 _ keyedI Tryz.underlying78 rfl HM.out (zeroR _) _ _ rfl hkey.out _ _ HG.out HS.out ?_))
      refine cMay.out.mono ?_
      rintro e W ⟨rfl, hb1⟩
      replace hO1 := hO1.same hb1
      have hB := hal.trans (hb1.mono hal.size)
      obtain ⟨q0, q1, q2, q3, q4⟩ := hO1.five
      obtain ⟨f0, f1, f2, f3, f4⟩ := hO1.free5
      clear hal hal0 cM HM HG hO2
      go_wp2
      have hO3 := hO1.set5 (.int .i64 0) (.slice none 0 0) (.slice none 0 0) (.slice none 0 0) (.map none)
      obtain ⟨p0, p1, p2, p3, p4⟩ := hO3.five
      have hB2 := hB.grown (grown_set5 W w.heap.size (.int .i64 0) (.slice none 0 0) (.slice none 0 0) (.slice none 0 0) (.map none)) (by have := hB.size; omega) (fun g e => by have := Option.some.inj e; omega)
      refine bodyPost_ret (v := .tuple #[zrow, .int .i64 60]) ?_ rfl ⟨rfl, hB2⟩
      simp [results, Tryz.f47, go_sem, p0, p1, p2, p3, p4, zrow]
    | true =>
      rw [hml] at cMay
      obtain rfl : RC = 0 := by rw [HC.out, hml]; rfl
      obtain rfl : RV = .agg #[.int .i64 x0, .slice A1 n1 c1, .slice A2 n2 c2, .slice A3 n3 c3, .map x4] := by rw [HV.out]; exact HG.out
      clear hml
      go_enter Tryz.func47, Tryz.ntmps47
      go_wp2_with (first
        | (go_at_call 43; refine cM.out.mono ?_; rintro e W ⟨rfl, rfl⟩)
        | (at_lookup; refine wpList_look_ok_g rfl (.tmp 18) (.tmp 19) _ rfl 3 _ keyedI Tryz.underlying78 rfl HM.out (zeroR _) _ _ rfl hkey.out _ _ HG.out HS.out ?_))
      refine cMay.out.mono ?_
      rintro e W ⟨rfl, hb1⟩
      replace hO1 := hO1.same hb1
      replace hO2 := hO2.same hb1
      have hB := hal.trans (hb1.mono hal.size)
      obtain ⟨q0, q1, q2, q3, q4⟩ := hO2.five
      obtain ⟨r0, r1, r2, r3, r4⟩ := hO1.five
      obtain ⟨f0, f1, f2, f3, f4⟩ := hO1.free5
      clear hal hal0 cM HM HG
      go_wp2
      have hO3 := hO1.set5 (.int .i64 x0) (.slice A1 n1 c1) (.slice A2 n2 c2) (.slice A3 n3 c3) (.map x4)
      obtain ⟨p0, p1, p2, p3, p4⟩ := hO3.five
      have hB2 := hB.grown (grown_set5 W w.heap.size (.int .i64 x0) (.slice A1 n1 c1) (.slice A2 n2 c2) (.slice A3 n3 c3) (.map x4)) (by have := hB.size; omega) (fun g e => by have := Option.some.inj e; omega)
      refine bodyPost_ret (v := .tuple #[.agg #[.int .i64 x0, .slice A1 n1 c1, .slice A2 n2 c2, .slice A3 n3 c3, .map x4], .int .i64 0]) ?_ rfl ⟨rfl, hB2⟩
      simp [results, Tryz.f47, go_sem, p0, p1, p2, p3, p4]
end Pc
end Go.Proofs.YtdbkkldgobkjcaaGreat

namespace Go.Proofs.YtdbkkldgobkjcaaGreat
open Go.RowKit Go.Maps
namespace Pc
open It Mv

theorem _root_.Go.Proofs.YtdbkkldgobkjcaaGreat.Ob.four {w : World} {b : Nat} {t : TypeId} {x0 x1 x2 x3 : Value} (h : Ob w b t #[x0, x1, x2, x3]) :
    w.cell? ⟨b, 0, none⟩ = some x0 ∧ w.cell? ⟨b, 1, none⟩ = some x1 ∧ w.cell? ⟨b, 2, none⟩ = some x2 ∧ w.cell? ⟨b, 3, none⟩ = some x3 :=
  ⟨h.cell (j := 0) rfl, h.cell (j := 1) rfl, h.cell (j := 2) rfl, h.cell (j := 3) rfl⟩
theorem _root_.Go.Proofs.YtdbkkldgobkjcaaGreat.Ob.free4 {w : World} {b : Nat} {t : TypeId} {cs : Array Value} (h : Ob w b t cs) :
    w.frozen? ⟨b, 0, none⟩ = false ∧ w.frozen? ⟨b, 1, none⟩ = false ∧ w.frozen? ⟨b, 2, none⟩ = false ∧ w.frozen? ⟨b, 3, none⟩ = false :=
  ⟨h.frozen 0, h.frozen 1, h.frozen 2, h.frozen 3⟩
theorem _root_.Go.Proofs.YtdbkkldgobkjcaaGreat.Ob.set4 {w : World} {b : Nat} {t : TypeId} {y0 y1 y2 y3 : Value} (h : Ob w b t #[y0, y1, y2, y3]) (x0 x1 x2 x3 : Value) :
    Ob ((((w.setCell ⟨b, 0, none⟩ x0).setCell ⟨b, 1, none⟩ x1).setCell ⟨b, 2, none⟩ x2).setCell ⟨b, 3, none⟩ x3) b t #[x0, x1, x2, x3] :=
  (((h.set 0 x0).set 1 x1).set 2 x2).set 3 x3
theorem _root_.Go.Proofs.YtdbkkldgobkjcaaGreat.grown_set4 (w : World) (b : Nat) (x0 x1 x2 x3 : Value) :
    w.grownBy ((((w.setCell ⟨b, 0, none⟩ x0).setCell ⟨b, 1, none⟩ x1).setCell ⟨b, 2, none⟩ x2).setCell ⟨b, 3, none⟩ x3) (some b) :=
  (((grownBy_set w b 0 x0).trans (grownBy_set _ b 1 x1)).trans (grownBy_set _ b 2 x2)).trans (grownBy_set _ b 3 x3)

def pclV (od : Int) (v1 v2 v3 : Value) : Value := .agg #[.int .i64 od, v1, v2, v3]
set_option maxRecDepth 100000 in
set_option maxHeartbeats 4000000 in
theorem copied_calls (od : Int) (l1 l2 l3 : List It.Item) (v1 v2 v3 : Value) (w : World) (h1 : ItemsAt w 0 w.heap.size v1 l1) (h2 : ItemsAt w 0 w.heap.size v2 l2) (h3 : ItemsAt w 0 w.heap.size v3 l3)
    (hn1 : l1.length ≤ 1000000) (hn2 : l2.length ≤ 1000000) (hn3 : l3.length ≤ 1000000) :
    Calls Tryz.prog 52 #[pclV od v1 v2 v3] w fun e w' =>
      (∃ u1 u2 u3, e = .returned (pclV od u1 u2 u3) ∧ w'.ownsRow w.heap.size 37 2 u1 l1.length (itemCells l1) ∧ w'.ownsRow w.heap.size 37 2 u2 l2.length (itemCells l2) ∧ w'.ownsRow w.heap.size 37 2 u3 l3.length (itemCells l3)) ∧ Below w.heap.size w w' := by
  have H1 := Lib.hid h1
  have H2 := Lib.hid h2
  have H3 := Lib.hid h3
  obtain ⟨A1, c1, rfl, -⟩ := h1.form
  obtain ⟨A2, c2, rfl, -⟩ := h2.form
  obtain ⟨A3, c3, rfl, -⟩ := h3.form
  clear h1 h2 h3
  dsimp only [pclV]
  go_enter Tryz.func52, Tryz.ntmps52
  go_wp2_with fail
  have hal0 := (Below.refl w.heap.size w).alloc (Nat.le_refl _) (.cells #[.int .i64 od, .slice A1 l1.length c1, .slice A2 l2.length c2, .slice A3 l3.length c3] 39)
  have hal := (hal0.alloc hal0.size (.cells #[.int .i64 0, .slice none 0 0, .slice none 0 0, .slice none 0 0] 39)).drew
  have hO1 : Ob ((w.alloc (.cells #[.int .i64 od, .slice A1 l1.length c1, .slice A2 l2.length c2, .slice A3 l3.length c3] 39)).alloc (.cells #[.int .i64 0, .slice none 0 0, .slice none 0 0, .slice none 0 0] 39)).drew w.heap.size 39 #[.int .i64 od, .slice A1 l1.length c1, .slice A2 l2.length c2, .slice A3 l3.length c3] := (Ob.new w 39 #[.int .i64 od, .slice A1 l1.length c1, .slice A2 l2.length c2, .slice A3 l3.length c3]).alloc (.cells #[.int .i64 0, .slice none 0 0, .slice none 0 0, .slice none 0 0] 39)
  have hO2 : Ob ((w.alloc (.cells #[.int .i64 od, .slice A1 l1.length c1, .slice A2 l2.length c2, .slice A3 l3.length c3] 39)).alloc (.cells #[.int .i64 0, .slice none 0 0, .slice none 0 0, .slice none 0 0] 39)).drew (w.heap.size + 1) 39 #[.int .i64 0, .slice none 0 0, .slice none 0 0, .slice none 0 0] := by
    have := Ob.new (w.alloc (.cells #[.int .i64 od, .slice A1 l1.length c1, .slice A2 l2.length c2, .slice A3 l3.length c3] 39)) 39 #[.int .i64 0, .slice none 0 0, .slice none 0 0, .slice none 0 0]
    rwa [World.size_alloc] at this
  have hI := Lib.hid (fun W (h : Below w.heap.size w W) => And.intro (H1.out.mono h h.size) (And.intro (H2.out.mono h h.size) (H3.out.mono h h.size)))
  generalize hW0 : ((w.alloc (.cells #[.int .i64 od, .slice A1 l1.length c1, .slice A2 l2.length c2, .slice A3 l3.length c3] 39)).alloc (.cells #[.int .i64 0, .slice none 0 0, .slice none 0 0, .slice none 0 0] 39)) = W0 at *
  have HAL := Lib.hid hal
  have HO2 := Lib.hid hO2
  have hO2lt := hO2.lt
  clear hal0 hW0 H1 H2 H3
  have cC1 := Lib.hid (clonei_calls l1 _ W0.drew (hI.out _ hal).1 hn1)
  clear hal hO2
  refine Pu.regionM [(0, false), (1, false), (2, false), (3, false), (5, false), (6, false), (8, false), (9, false), (4, true), (7, true), (10, true), (11, false), (12, true)] (fun W => Ob W w.heap.size 39 #[.int .i64 od, .slice A1 l1.length c1, .slice A2 l2.length c2, .slice A3 l3.length c3]) hmx (by kernel_rfl) (by kernel_rfl) (by kernel_rfl) hO1 rfl ?_
  simp only [Pu.named, List.filterMap_cons, List.filterMap_nil, List.getElem?_toArray, List.getElem?_cons_succ, List.getElem?_cons_zero, Option.map_some]
  iterate 8 (apply Pu.WalkM.on (by rfl)
             · rintro W hOW
               obtain ⟨q0, q1, q2, q3⟩ := hOW.four
               go_wp2_with fail
               refine ⟨rfl, ?_, rfl⟩
               try simp only [Act.put, List.setIfInBounds_toArray, List.set_cons_succ, List.set_cons_zero]
               rfl
             simp only [Act.put, List.setIfInBounds_toArray, List.set_cons_succ, List.set_cons_zero])
  refine Pu.WalkM.make (by rfl) ?_
  rintro W rfl
  go_wp2_with (go_at_call 45; refine cC1.out.mono ?_; rintro e W1 ⟨⟨u1, rfl, hu1⟩, hb1⟩)
  have hO11 := hO1.same hb1
  have HAL1 := Lib.hid (HAL.out.trans (hb1.mono HAL.out.size))
  have HO21 := Lib.hid (HO2.out.same hb1)
  have HU1 := Lib.hid hu1
  have cC2 := Lib.hid (clonei_calls l2 _ W1 (hI.out _ HAL1.out).2.1 hn2)
  have hs1 := hb1.size
  obtain ⟨B1, d1, rfl, -⟩ := (ItemsAt.of_own hu1).form
  clear hu1 hO1
  refine ⟨rfl, .slice B1 l1.length d1, _, (fun W => W = W1), ?_, rfl, (fun W h => by rw [h]; exact hO11), (.inr (fun _ h => h)), ?_⟩
  · simp only [Act.put, List.setIfInBounds_toArray, List.set_cons_succ, List.set_cons_zero]
  simp only [Act.put, List.setIfInBounds_toArray, List.set_cons_succ, List.set_cons_zero]
  refine Pu.WalkM.make (by rfl) ?_
  rintro W rfl
  go_wp2_with (go_at_call 45; refine cC2.out.mono ?_; rintro e W2 ⟨⟨u2, rfl, hu2⟩, hb2⟩)
  have hO12 := hO11.same hb2
  have HAL2 := Lib.hid (HAL1.out.trans (hb2.mono HAL1.out.size))
  have HO22 := Lib.hid (HO21.out.same hb2)
  have HU2 := Lib.hid hu2
  have HU12 := Lib.hid (row_below HU1.out hb2)
  have cC3 := Lib.hid (clonei_calls l3 _ W2 (hI.out _ HAL2.out).2.2 hn3)
  have hs2 := hb2.size
  obtain ⟨B2, d2, rfl, -⟩ := (ItemsAt.of_own hu2).form
  clear hu2 hO11 hb1
  refine ⟨rfl, .slice B2 l2.length d2, _, (fun W => W = W2), ?_, rfl, (fun W h => by rw [h]; exact hO12), (.inr (fun _ h => h)), ?_⟩
  · simp only [Act.put, List.setIfInBounds_toArray, List.set_cons_succ, List.set_cons_zero]
  simp only [Act.put, List.setIfInBounds_toArray, List.set_cons_succ, List.set_cons_zero]
  refine Pu.WalkM.make (by rfl) ?_
  rintro W rfl
  go_wp2_with (go_at_call 45; refine cC3.out.mono ?_; rintro e W3 ⟨⟨u3, rfl, hu3⟩, hb3⟩)
  have hO13 := hO12.same hb3
  have HAL3 := Lib.hid (HAL2.out.trans (hb3.mono HAL2.out.size))
  have hO23 := HO22.out.same hb3
  have HU3 := Lib.hid hu3
  have HU13 := Lib.hid (row_below HU12.out hb3)
  have HU23 := Lib.hid (row_below HU2.out hb3)
  have hs3 := hb3.size
  obtain ⟨B3, d3, rfl, -⟩ := (ItemsAt.of_own hu3).form
  clear hu3 hO12 hb2 hb3
  refine ⟨rfl, .slice B3 l3.length d3, _, (fun W => W = W3), ?_, rfl, (fun W h => by rw [h]; exact hO13), (.inr (fun _ h => h)), ?_⟩
  · simp only [Act.put, List.setIfInBounds_toArray, List.set_cons_succ, List.set_cons_zero]
  simp only [Act.put, List.setIfInBounds_toArray, List.set_cons_succ, List.set_cons_zero]
  apply Pu.WalkM.on (by rfl)
  · rintro W hOW
    go_wp2_with fail
    refine ⟨rfl, ?_, rfl⟩
    try simp only [Act.put, List.setIfInBounds_toArray, List.set_cons_succ, List.set_cons_zero]
    rfl
  simp only [Act.put, List.setIfInBounds_toArray, List.set_cons_succ, List.set_cons_zero]
  refine Pu.WalkM.make (by rfl) ?_
  rintro W rfl
  obtain ⟨q0, q1, q2, q3⟩ := hO23.four
  obtain ⟨f0, f1, f2, f3⟩ := hO23.free4
  go_wp2_with fail
  have hO4 := hO23.set4 (.int .i64 od) (.slice B1 l1.length d1) (.slice B2 l2.length d2) (.slice B3 l3.length d3)
  have hg4 := grown_set4 W (w.heap.size + 1) (.int .i64 od) (.slice B1 l1.length d1) (.slice B2 l2.length d2) (.slice B3 l3.length d3)
  refine ⟨rfl, undef, (fun _ => True), (fun V => V = _), rfl, rfl, (fun _ _ => trivial), (.inl (by kernel_rfl)), Pu.WalkM.nil ?_⟩
  rintro V rfl
  simp only [Act.put]
  obtain ⟨p0, p1, p2, p3⟩ := hO4.four
  have hz0 := HAL.out.size
  have hz1 := hO2lt
  have hBf := HAL3.out.grown hg4 (by have := HAL3.out.size; omega) (fun g e => by have := Option.some.inj e; omega)
  have hU1 := ownsRow_far HU13.out hg4 (by omega)
  have hU2 := ownsRow_far HU23.out hg4 (by omega)
  have hU3 := ownsRow_far HU3.out hg4 (by omega)
  generalize ((((W.setCell ⟨w.heap.size + 1, 0, none⟩ (.int .i64 od)).setCell ⟨w.heap.size + 1, 1, none⟩ (.slice B1 l1.length d1)).setCell ⟨w.heap.size + 1, 2, none⟩ (.slice B2 l2.length d2)).setCell ⟨w.heap.size + 1, 3, none⟩ (.slice B3 l3.length d3)) = W4 at *
  clear q0 q1 q2 q3 f0 f1 f2 f3
  go_wp2
  refine bodyPost_ret (v := .agg #[.int .i64 od, .slice B1 l1.length d1, .slice B2 l2.length d2, .slice B3 l3.length d3]) ?_ rfl ⟨⟨_, _, _, rfl, ownsRow_wide hU1 (by omega), ownsRow_wide hU2 (by omega), ownsRow_wide hU3 (by omega)⟩, hBf⟩
  simp [results, Tryz.f52, go_sem, p0, p1, p2, p3]

/-- a parcel as it is asked for -/
def pcl0 : Row := ⟨0, [], [], [], [], 0⟩
theorem PcAt.val {w : World} {base b mb : Nat} {X : Nat → Prop} {ds : List Row} (_h : PcAt w base b mb X ds) (od : Int) {m : List (Int × Value)} (hR : Rel w (Fo b mb X ds) m ds) :
    (mGet m od).isSome = (findR ds od).isSome ∧ ∃ x0 A1 n1 c1 A2 n2 c2 A3 n3 c3 x4, (mGet m od).getD zrow = .agg #[.int .i64 x0, .slice A1 n1 c1, .slice A2 n2 c2, .slice A3 n3 c3, .map x4] := by
  cases hf : findR ds od with
  | none => exact ⟨by rw [hR.none hf]; rfl, 0, none, 0, 0, none, 0, 0, none, 0, 0, none, by rw [hR.none hf]; rfl⟩
  | some d =>
    obtain ⟨val, hg, v1, v2, v3, e, h1, h2, h3⟩ := hR.some hf
    obtain ⟨A1, c1, rfl, -⟩ := h1.items.form
    obtain ⟨A2, c2, rfl, -⟩ := h2.items.form
    obtain ⟨A3, c3, rfl, -⟩ := h3.items.form
    exact ⟨by rw [hg]; rfl, _, _, _, _, _, _, _, _, _, _, _, by rw [hg]; exact e⟩
theorem may_nil : may [] = true := by decide +kernel

set_option maxRecDepth 100000 in
set_option maxHeartbeats 4000000 in
theorem parcel_calls (od : Int) (base b mb : Nat) (X : Nat → Prop) (ds : List Row) (w : World) (h : PcAt w base b mb X ds) (h0 : -9223372036854775808 ≤ od) (h1 : od ≤ 9223372036854775807) :
    Calls Tryz.prog 17 #[.pointer (some ⟨b, 0, none⟩), .int .i64 od] w fun e w' =>
      (∃ u1 u2 u3, e = .returned (.tuple #[pclV ((findR ds od).getD pcl0).od u1 u2 u3, .bool (findR ds od).isSome]) ∧ w'.ownsRow w.heap.size 37 2 u1 ((findR ds od).getD pcl0).wa.length (itemCells ((findR ds od).getD pcl0).wa) ∧
        w'.ownsRow w.heap.size 37 2 u2 ((findR ds od).getD pcl0).sh.length (itemCells ((findR ds od).getD pcl0).sh) ∧ w'.ownsRow w.heap.size 37 2 u3 ((findR ds od).getD pcl0).ba.length (itemCells ((findR ds od).getD pcl0).ba)) ∧ Below w.heap.size w w' := by
  obtain ⟨m, hm, hR⟩ := h.map
  have g0 : w.cell? ⟨b, 0, none⟩ = some (.map (some mb)) := h.ob.cell (j := 0) rfl
  have hbl := h.ob.lt
  obtain ⟨hs, hv⟩ := h.val od hR
  have hal := (Below.refl w.heap.size w).alloc (Nat.le_refl _) (.cells #[.int .i64 0, .slice none 0 0, .slice none 0 0, .slice none 0 0] 39)
  have hO1 := Ob.new w 39 #[.int .i64 0, .slice none 0 0, .slice none 0 0, .slice none 0 0]
  have cR := Lib.hid (row_calls od [] (.slice none 0 0) b mb m ds (w.alloc (.cells #[.int .i64 0, .slice none 0 0, .slice none 0 0, .slice none 0 0] 39)) ((hal.cell (p := ⟨b, 0, none⟩) hbl).trans g0) (Nat.lt_of_lt_of_le hbl hal.size) (hm.below hal hm.lt) hs hv (ItemsAt.nil _ _ _) (fun x hx => by cases hx) h0 h1)
  have H := Lib.hid h
  have hcode : rowCode ds od [] = if (findR ds od).isSome then 0 else 4 := by unfold rowCode; rw [may_nil]; rfl
  have HRV := Lib.hid (show rowVal ds od [] m = if rowCode ds od [] = 0 then (mGet m od).getD zrow else zrow from rfl)
  rw [hcode] at cR HRV
  cases hf : findR ds od with
  | none =>
    rw [hf] at cR HRV
    have e : rowVal ds od [] m = zrow := by rw [HRV.out]; rfl
    rw [e] at cR
    simp only [Option.isSome_none, Bool.false_eq_true, if_false, Option.getD_none, pcl0, zrow] at cR ⊢
    clear hs hv hm hR hf HRV hcode e h
    go_enter Tryz.func17, Tryz.ntmps17
    go_wp2_with fail
    refine cR.out.mono ?_
    rintro e W ⟨rfl, hb1⟩
    replace hO1 := hO1.same hb1
    have hB := hal.trans (hb1.mono hal.size)
    obtain ⟨q0, q1, q2, q3⟩ := (hO1.alloc (.cells #[.int .i64 0, .slice none 0 0, .slice none 0 0, .slice none 0 0, .map none] 87)).four
    obtain ⟨f0, f1, f2, f3⟩ := (hO1.alloc (.cells #[.int .i64 0, .slice none 0 0, .slice none 0 0, .slice none 0 0, .map none] 87)).free4
    go_wp2
    have hO2 := (hO1.alloc (.cells #[.int .i64 0, .slice none 0 0, .slice none 0 0, .slice none 0 0, .map none] 87)).set4 (.int .i64 0) (.slice none 0 0) (.slice none 0 0) (.slice none 0 0)
    obtain ⟨p0, p1, p2, p3⟩ := hO2.four
    have hB2 := (hB.alloc hB.size (.cells #[.int .i64 0, .slice none 0 0, .slice none 0 0, .slice none 0 0, .map none] 87)).grown (grown_set4 _ w.heap.size (.int .i64 0) (.slice none 0 0) (.slice none 0 0) (.slice none 0 0)) (by have := hB.size; simp; omega) (fun g e => by have := Option.some.inj e; omega)
    refine bodyPost_ret (v := .tuple #[.agg #[.int .i64 0, .slice none 0 0, .slice none 0 0, .slice none 0 0], .bool false]) ?_ rfl ⟨⟨.slice none 0 0, .slice none 0 0, .slice none 0 0, rfl, World.ownsRow_nil _ _ _ _, World.ownsRow_nil _ _ _ _, World.ownsRow_nil _ _ _ _⟩, hB2⟩
    simp [results, Tryz.f17, go_sem, p0, p1, p2, p3]
  | some d =>
    obtain ⟨val, hg, v1, v2, v3, ev, i1, i2, i3⟩ := hR.some hf
    have hd := H.out.ok d (findR_mem hf).1
    have e : rowVal ds od [] m = rowV d v1 v2 v3 := by rw [HRV.out, hf, hg, ← ev]; rfl
    rw [hf, e] at cR
    simp only [Option.isSome_some, if_true, Option.getD_some] at cR ⊢
    have cC := Lib.hid (fun W (hb : Below w.heap.size w W) => copied_calls d.od d.wa d.sh d.ba v1 v2 v3 W (i1.items.mono hb hb.size) (i2.items.mono hb hb.size) (i3.items.mono hb hb.size) (by have := hd.wa.len; omega) (by have := hd.sh.len; omega) (by have := hd.ba.len; omega))
    obtain ⟨A1, c1, rfl, -⟩ := i1.items.form
    obtain ⟨A2, c2, rfl, -⟩ := i2.items.form
    obtain ⟨A3, c3, rfl, -⟩ := i3.items.form
    simp only [rowV] at cR
    simp only [pclV] at cC ⊢
    clear hs hv hm hR hf HRV hcode e h hd hg ev i1 i2 i3
    go_enter Tryz.func17, Tryz.ntmps17
    go_wp2_with fail
    refine cR.out.mono ?_
    rintro e W ⟨rfl, hb1⟩
    replace hO1 := (hO1.same hb1).alloc (.cells #[.int .i64 d.od, .slice A1 d.wa.length c1, .slice A2 d.sh.length c2, .slice A3 d.ba.length c3, .map (some d.fb)] 87)
    have hB := (hal.trans (hb1.mono hal.size)).alloc (by have := hb1.size; have := hal.size; omega) (.cells #[.int .i64 d.od, .slice A1 d.wa.length c1, .slice A2 d.sh.length c2, .slice A3 d.ba.length c3, .map (some d.fb)] 87)
    have hO2 := Ob.new W 87 #[.int .i64 d.od, .slice A1 d.wa.length c1, .slice A2 d.sh.length c2, .slice A3 d.ba.length c3, .map (some d.fb)]
    have cC2 := Lib.hid (cC.out _ hB)
    clear hal hb1 cC cR
    obtain ⟨q0, q1, q2, q3, q4⟩ := hO2.five
    go_wp2_with fail
    refine cC2.out.mono ?_
    rintro e W2 ⟨⟨u1, u2, u3, rfl, o1, o2, o3⟩, hb2⟩
    have hB2 := hB.trans (hb2.mono hB.size)
    obtain ⟨B1, d1, rfl, -⟩ := (ItemsAt.of_own o1).form
    obtain ⟨B2, d2, rfl, -⟩ := (ItemsAt.of_own o2).form
    obtain ⟨B3, d3, rfl, -⟩ := (ItemsAt.of_own o3).form
    have O1 := Lib.hid o1
    have O2 := Lib.hid o2
    have O3 := Lib.hid o3
    clear q0 q1 q2 q3 q4 o1 o2 o3
    have hO3 := hO1.same hb2
    obtain ⟨q0, q1, q2, q3⟩ := hO3.four
    obtain ⟨f0, f1, f2, f3⟩ := hO3.free4
    have hl1 := hO1.lt
    have hz := hB.size
    clear hO2 hO1 hb2
    go_wp2
    have hO4 := hO3.set4 (.int .i64 d.od) (.slice B1 d.wa.length d1) (.slice B2 d.sh.length d2) (.slice B3 d.ba.length d3)
    have hg4 := grown_set4 W2 w.heap.size (.int .i64 d.od) (.slice B1 d.wa.length d1) (.slice B2 d.sh.length d2) (.slice B3 d.ba.length d3)
    obtain ⟨p0, p1, p2, p3⟩ := hO4.four
    have hB3 := hB2.grown hg4 (by have := hB2.size; omega) (fun g e => by have := Option.some.inj e; omega)
    refine bodyPost_ret (v := .tuple #[.agg #[.int .i64 d.od, .slice B1 d.wa.length d1, .slice B2 d.sh.length d2, .slice B3 d.ba.length d3], .bool true]) ?_ rfl ⟨⟨_, _, _, rfl, ownsRow_wide (ownsRow_far O1.out hg4 (by omega)) (by omega), ownsRow_wide (ownsRow_far O2.out hg4 (by omega)) (by omega), ownsRow_wide (ownsRow_far O3.out hg4 (by omega)) (by omega)⟩, hB3⟩
    simp [results, Tryz.f17, go_sem, p0, p1, p2, p3]
end Pc
end Go.Proofs.YtdbkkldgobkjcaaGreat

namespace Go.Proofs.YtdbkkldgobkjcaaGreat
open Go.RowKit Go.Maps
namespace Pc
open It Mv

def leftOf (ds : List Row) (od : Int) : List It.Item := both restF ((findR ds od).getD pcl0).sh ((findR ds od).getD pcl0).ba
theorem fits_sh {ds : List Row} (h : ∀ d ∈ ds, OkR d) (od : Int) : Fits ((findR ds od).getD pcl0).sh ∧ Fits ((findR ds od).getD pcl0).ba := by
  cases hf : findR ds od with
  | none =>
    have h0 : Fits [] := fun x hx => by cases hx
    exact ⟨h0, h0⟩
  | some d => exact ⟨fits_of (h d (findR_mem hf).1).sh, fits_of (h d (findR_mem hf).1).ba⟩
set_option maxRecDepth 100000 in
theorem left_calls (od : Int) (base b mb : Nat) (X : Nat → Prop) (ds : List Row) (w : World) (h : PcAt w base b mb X ds) (h0 : -9223372036854775808 ≤ od) (h1 : od ≤ 9223372036854775807) :
    Calls Tryz.prog 22 #[.pointer (some ⟨b, 0, none⟩), .int .i64 od] w fun e w' =>
      (∃ v, e = .returned v ∧ w'.ownsRow w.heap.size 37 2 v (leftOf ds od).length (itemCells (leftOf ds od))) ∧ Below w.heap.size w w' := by
  have cP := Lib.hid (parcel_calls od base b mb X ds w h h0 h1)
  obtain ⟨hF1, hF2⟩ := fits_sh h.ok od
  have HL := Lib.hid (show leftOf ds od = both restF ((findR ds od).getD pcl0).sh ((findR ds od).getD pcl0).ba from rfl)
  generalize leftOf ds od = R at *
  generalize (findR ds od).isSome = kn at *
  generalize (findR ds od).getD pcl0 = d at *
  obtain ⟨od', wa, sh, ba, fr, fb⟩ := d
  dsimp only at cP hF1 hF2 HL
  obtain ⟨rfl⟩ := HL.out
  clear h HL
  go_enter Tryz.func22, Tryz.ntmps22
  go_wp2_with fail
  refine cP.out.mono ?_
  rintro e W ⟨⟨u1, u2, u3, rfl, o1, o2, o3⟩, hb1⟩
  obtain ⟨B1, d1, rfl, -⟩ := (toAt o1).form
  have I2 := toAt o2
  have I3 := toAt o3
  obtain ⟨B2, d2, rfl, -⟩ := (toAt o2).form
  obtain ⟨B3, d3, rfl, -⟩ := (toAt o3).form
  have hal := (Below.refl W.heap.size W).alloc (Nat.le_refl _) (.cells #[.int .i64 od', .slice B1 wa.length d1, .slice B2 sh.length d2, .slice B3 ba.length d3] 39)
  have cR := Lib.hid (rest_calls sh ba _ _ _ (I2.mono hal hal.size) (I3.mono hal hal.size) hF1 hF2)
  have hB := hb1.trans (hal.mono hb1.size)
  dsimp only [pclV]
  clear o1 o2 o3 I2 I3 cP
  go_wp2_with fail
  refine cR.out.mono ?_
  rintro e W2 ⟨⟨v, rfl, hv⟩, hb2⟩
  go_wp2
  go_ret
  exact ⟨⟨_, rfl, ownsRow_wide hv hB.size⟩, hB.trans (hb2.mono hB.size)⟩

/-- a row is put into the table -/
theorem put_fin {w W W3 : World} {base b mb : Nat} {X : Nat → Prop} {ds : List Row} {m : List (Int × Value)} {d : Row} {val : Value} (H : PcAt w base b mb X ds) (hR : Rel w (Fo b mb X ds) m ds) (hO : Other mb ds w W) (hd : OkR d)
    (hv : RowAt W (Fo b mb X (putR ds d)) val d) (hf : GMap intK W Tryz.prog 3 d.fb d.fr) (hs : d.fb ≠ b ∧ d.fb ≠ mb ∧ ¬ X d.fb ∧ base ≤ d.fb) (hfo : ∀ i, i < w.heap.size → Fo b mb X ds i → i ≠ d.fb)
    (hap : ∀ c ∈ ds, c.od ≠ d.od → c.fb ≠ d.fb) (hoth : ∀ c ∈ ds, c.od ≠ d.od → GMap intK W Tryz.prog 3 c.fb c.fr) (hM3 : GMap intK W3 Tryz.prog 3 mb (mPut intK m d.od val)) (hg3 : W.grownBy W3 (some mb)) :
    PcAt W3 base b mb X (putR ds d) ∧ Other mb ds w W3 := by
  have hk3 : Kept (fun i => i < W.heap.size ∧ i ≠ mb) W W3 := Kept.of_grown hg3 fun i hi => ⟨hi.1, fun e => hi.2 (Option.some.inj e)⟩
  have hsz := Kept.size hO
  have hO3 : Other mb ds w W3 := Kept.trans hO (hk3.mono fun i hi => ⟨Nat.lt_of_lt_of_le hi.1 hsz, hi.2.1⟩)
  have hgm : ∀ {i : Nat} {t : List (Int × Value)}, GMap intK W Tryz.prog 3 i t → i ≠ mb → GMap intK W3 Tryz.prog 3 i t := fun h hne => h.kept hg3 (fun e => hne (Option.some.inj e))
  refine ⟨⟨hk3.ob (hO.ob H.ob H.ne (fun d hd => (H.sep d hd).1.symm)) ⟨Nat.lt_of_lt_of_le H.ob.lt hsz, H.ne⟩, ⟨_, hM3, Rel.put (hv.keep hk3 fun i hi hF => ⟨⟨hi, hF.2.1⟩, hF⟩) (hR.keep hO3 fun i hi hF => ⟨⟨hi, hF.2.1, hF.2.2.2⟩, hF.1, hF.2.1, hF.2.2.1, fun c hc => ?_⟩)⟩, fun c hc => ?_, Apart.put H.apart hap, fun c hc => ?_, H.ne, H.lo, H.nx, fun i hi => Nat.lt_of_lt_of_le (H.xl i hi) (Kept.size hO3), fun c hc => ?_⟩, hO3⟩
  all_goals rcases putR_mem hc with rfl | ⟨hc, hne⟩
  · exact hgm hf hs.2.1
  · exact hgm (hoth c hc hne) (H.sep c hc).2.1
  · exact hs
  · exact H.sep c hc
  · exact hd
  · exact H.ok c hc
  · exact hfo _ ‹_› ‹_›
  · exact (‹Fo b mb X ds _›).2.2.2 c hc
theorem PcAt.short {w : World} {base b mb : Nat} {X : Nat → Prop} {ds : List Row} (h : PcAt w base b mb X ds) {m : List (Int × Value)} (hm : GMap intK w Tryz.prog 3 mb m) (hR : Rel w (Fo b mb X ds) m ds) : m.length ≤ 1099511627776 := by
  have := GMap.keys_len hm 1 1099511627777 (by omega) fun p hp => by
    have h1 : p.1 ∈ ds.map (·.od) := by rw [← hR.keys]; exact List.mem_map.2 ⟨p, hp, rfl⟩
    obtain ⟨d, hd, e⟩ := List.mem_map.1 h1
    have := (h.ok d hd).od
    omega
  omega
theorem fresh_row {W : World} {F : Nat → Prop} {od : Int} {l : List It.Item} {v : Value} {fb : Nat} (h : LiAt W F v l) : RowAt W F (rowV ⟨od, l, [], [], [], fb⟩ v (.slice none 0 0) (.slice none 0 0)) ⟨od, l, [], [], [], fb⟩ :=
  ⟨_, _, _, rfl, h, LiAt.nil _ _, LiAt.nil _ _⟩

theorem open_fin {w W W3 : World} {base b mb : Nat} {X : Nat → Prop} {ds : List Row} {m : List (Int × Value)} {od : Int} {l : List It.Item} {v : Value} {fb : Nat} (H : PcAt w base b mb X ds) (hR : Rel w (Fo b mb X ds) m ds) (hB : Below w.heap.size w W)
    (hl : LiAt W (fun i => w.heap.size ≤ i ∧ i ≠ fb) v l) (hfb : w.heap.size ≤ fb) (hgm : GMap intK W Tryz.prog 3 fb []) (hod : 1 ≤ od ∧ od ≤ 1099511627776) (hml : may l = true) (hl0 : l ≠ []) (_hkn : (findR ds od).isSome = false) (hbase : base ≤ w.heap.size)
    (hM3 : GMap intK W3 Tryz.prog 3 mb (mPut intK m od (.agg #[.int .i64 od, v, .slice none 0 0, .slice none 0 0, .map (some fb)]))) (hg3 : W.grownBy W3 (some mb)) :
    PcAt W3 base b mb X (putR ds ⟨od, l, [], [], [], fb⟩) ∧ Other mb ds w W3 := by
  obtain ⟨m', hm', -⟩ := H.map
  have hmb := hm'.lt
  have hbl := H.ob.lt
  have hM0 : M [] := (may_iff []).1 may_nil
  have hne : ∀ c ∈ ds, c.fb < w.heap.size := fun c hc => GMap.lt (H.frm c hc)
  refine put_fin H hR (Other.of_below hB) (d := ⟨od, l, [], [], [], fb⟩) ⟨by dsimp only; omega, (may_iff l).1 hml, hl0, hM0, hM0, covers_nil ((may_iff l).1 hml), covers_nil hM0, fun p hp => by cases hp⟩ (fresh_row (hl.keep (Kept.refl (fun _ => True) _) fun i _ hi => ⟨trivial, ?_⟩)) hgm ⟨by dsimp only; omega, by dsimp only; omega, fun hx => ?_, by dsimp only; omega⟩ (fun i hi _ => by dsimp only; omega) (fun c hc _ => ?_) (fun c hc _ => (H.frm c hc).below hB (hne c hc)) hM3 hg3
  · refine ⟨by omega, by omega, fun hx => ?_, fun c hc => ?_⟩
    · have := H.xl i hx; omega
    · rcases putR_mem hc with rfl | ⟨hc, -⟩
      · exact hi.2
      · have := hne c hc; omega
  · have := H.xl _ hx
    dsimp only at this
    omega
  · have := hne c hc
    dsimp only
    omega

set_option maxRecDepth 100000 in
set_option maxHeartbeats 8000000 in
theorem open_calls (od : Int) (l : List It.Item) (lv : Value) (base b mb : Nat) (X : Nat → Prop) (ds : List Row) (w : World) (h : PcAt w base b mb X ds) (hI : ItemsAt w 0 w.heap.size lv l) (hF : Fits l) (h0 : -9223372036854775808 ≤ od) (h1 : od ≤ 9223372036854775807) (hbase : base ≤ w.heap.size) :
    Calls Tryz.prog 9 #[.pointer (some ⟨b, 0, none⟩), .int .i64 od, lv] w fun e w' => (∃ fb, e = .returned (.int .i64 (openOf ds od l fb).2) ∧ PcAt w' base b mb X (openOf ds od l fb).1 ∧ w.heap.size ≤ fb) ∧ Other mb ds w w' := by
  obtain ⟨m, hm, hR⟩ := h.map
  have g0 : w.cell? ⟨b, 0, none⟩ = some (.map (some mb)) := h.ob.cell (j := 0) rfl
  have hmb := hm.lt
  have hbl := h.ob.lt
  have hkey := Lib.hid (keyI h0 h1)
  have cMd := Lib.hid (made_calls b mb _ g0)
  have cMay := Lib.hid (fun W hI => may_calls l lv W hI hF)
  have HG0 := Lib.hid (show ∀ fb, openOf ds od l fb = if od < 1 ∨ 1099511627776 < od then (ds, 1) else if may l = false ∨ l = [] then (ds, 60) else if (findR ds od).isSome then (ds, 5) else (putR ds ⟨od, l, [], [], [], fb⟩, 0) from fun _ => rfl)
  obtain ⟨hs, x0, A1, n1, c1, A2, n2, c2, A3, n3, c3, x4, hg⟩ := h.val od hR
  have HG := Lib.hid hg
  have HS := Lib.hid hs
  have HM := Lib.hid hm
  have HR := Lib.hid hR
  have H := Lib.hid h
  have hb := (Below.refl w.heap.size w).alloc (Nat.le_refl _) (.cells #[.int .i64 x0, .slice A1 n1 c1, .slice A2 n2 c2, .slice A3 n3 c3, .map x4] 87)
  have hIn := Lib.hid hI
  obtain ⟨Al, cl, rfl, hc1, hc2⟩ := hI.form
  unfold maxLen at hc2
  generalize hkn : (findR ds od).isSome = kn at *
  generalize hml : may l = ml at *
  have HML := Lib.hid hml
  have HKN := Lib.hid hkn
  have cMy := Lib.hid (cMay.out _ (hIn.out.mono hb hb.size))
  have hmm := @run_makeMap Tryz.prog
  clear hg hs hm hR h hI hkn hml cMay
  have hcs : (decide (od < 1) = true ∨ (decide (od < 1) = false ∧ decide (od > 1099511627776) = true)) ∨ (decide (od < 1) = false ∧ decide (od > 1099511627776) = false) := by
    by_cases e1 : od < 1 <;> by_cases e2 : od > 1099511627776 <;> simp [e1, e2]
  rcases hcs with hbad | ⟨e1, e2⟩
  · have hR1 : ∀ fb, openOf ds od l fb = (ds, 1) := fun fb => by
      rw [HG0.out, if_pos]
      rcases hbad with e1 | ⟨_, e2⟩
      · exact .inl (by simpa using e1)
      · exact .inr (by simpa using e2)
    simp only [hR1]
    rcases hbad with e1 | ⟨e1, e2⟩
    all_goals
      go_enter Tryz.func9, Tryz.ntmps9
      go_wp2_with (first
        | (go_at_call 43; refine cMd.out.mono ?_; rintro e W ⟨rfl, rfl⟩)
        | (at_lookup; refine wpList_look_ok_g rfl (.tmp 16) (.tmp 17) _ rfl 3 _ keyedI Tryz.underlying78 rfl HM.out (zeroR _) _ _ rfl hkey.out _ _ HG.out HS.out ?_))
      go_ret
      exact ⟨⟨_, rfl, H.out.same hb, Nat.le_refl _⟩, Other.of_below hb⟩
  · have hod : ¬ od < 1 ∧ ¬ 1099511627776 < od := by simp only [decide_eq_false_iff_not] at e1 e2; exact ⟨e1, e2⟩
    have HR1 := Lib.hid (show ∀ fb, openOf ds od l fb = if ml = false ∨ l = [] then (ds, 60) else if kn then (ds, 5) else (putR ds ⟨od, l, [], [], [], fb⟩, 0) from fun fb => by
      rw [HG0.out, if_neg]
      rintro (h | h)
      · exact hod.1 h
      · exact hod.2 h)
    cases ml with
    | false =>
      have hR2 : ∀ fb, openOf ds od l fb = (ds, 60) := fun fb => by rw [HR1.out, if_pos (.inl rfl)]
      simp only [hR2]
      clear hR2
      go_enter Tryz.func9, Tryz.ntmps9
      go_wp2_with (first
        | (go_at_call 43; refine cMd.out.mono ?_; rintro e W ⟨rfl, rfl⟩)
        | (at_lookup; refine wpList_look_ok_g rfl (.tmp 16) (.tmp 17) _ rfl 3 _ keyedI Tryz.underlying78 rfl HM.out (zeroR _) _ _ rfl hkey.out _ _ HG.out HS.out ?_)
        | (go_at_call 44; refine cMy.out.mono ?_; rintro e W1 ⟨rfl, hb1⟩; have hb2 := hb.trans (hb1.mono hb.size)))
      go_ret
      exact ⟨⟨_, rfl, H.out.same hb2, Nat.le_refl _⟩, Other.of_below hb2⟩
    | true =>
      by_cases hl0 : l = []
      · have hR2 : ∀ fb, openOf ds od l fb = (ds, 60) := fun fb => by rw [HR1.out, if_pos (.inr hl0)]
        simp only [hR2]
        have hl1 : l.length = 0 := by rw [hl0]; rfl
        rw [hl1] at cMy ⊢
        clear hl0 hR2
        go_enter Tryz.func9, Tryz.ntmps9
        go_wp2_with (first
          | (go_at_call 43; refine cMd.out.mono ?_; rintro e W ⟨rfl, rfl⟩)
          | (at_lookup; refine wpList_look_ok_g rfl (.tmp 16) (.tmp 17) _ rfl 3 _ keyedI Tryz.underlying78 rfl HM.out (zeroR _) _ _ rfl hkey.out _ _ HG.out HS.out ?_)
          | (go_at_call 44; refine cMy.out.mono ?_; rintro e W1 ⟨rfl, hb1⟩; have hb2 := hb.trans (hb1.mono hb.size)))
        go_ret
        exact ⟨⟨_, rfl, H.out.same hb2, Nat.le_refl _⟩, Other.of_below hb2⟩
      · have hl1 : ((l.length : Int) == 0) = false := by
          cases l with
          | nil => exact (hl0 rfl).elim
          | cons x r => simp; omega
        have HL0 := Lib.hid hl0
        have HR2 := Lib.hid (show ∀ fb, openOf ds od l fb = if kn then (ds, 5) else (putR ds ⟨od, l, [], [], [], fb⟩, 0) from fun fb => by
          rw [HR1.out, if_neg]
          rintro (h | h)
          · cases h
          · exact HL0.out h)
        clear hl0
        cases kn with
        | true =>
          have hR2 : ∀ fb, openOf ds od l fb = (ds, 5) := fun fb => by rw [HR2.out]; rfl
          simp only [hR2]
          clear hR2
          go_enter Tryz.func9, Tryz.ntmps9
          go_wp2_with (first
          | (go_at_call 43; refine cMd.out.mono ?_; rintro e W ⟨rfl, rfl⟩)
          | (at_lookup; refine wpList_look_ok_g rfl (.tmp 16) (.tmp 17) _ rfl 3 _ keyedI Tryz.underlying78 rfl HM.out (zeroR _) _ _ rfl hkey.out _ _ HG.out HS.out ?_)
          | (go_at_call 44; refine cMy.out.mono ?_; rintro e W1 ⟨rfl, hb1⟩; have hb2 := hb.trans (hb1.mono hb.size)))
          go_ret
          exact ⟨⟨_, rfl, H.out.same hb2, Nat.le_refl _⟩, Other.of_below hb2⟩
        | false =>
          have hR2 : ∀ fb, openOf ds od l fb = (putR ds ⟨od, l, [], [], [], fb⟩, 0) := fun fb => by rw [HR2.out]; rfl
          simp only [hR2]
          clear hR2
          have hl16 := may_len HML.out
          go_enter Tryz.func9, Tryz.ntmps9
          go_wp2_with (first
          | (go_at_call 43; refine cMd.out.mono ?_; rintro e W ⟨rfl, rfl⟩)
          | (at_lookup; refine wpList_look_ok_g rfl (.tmp 16) (.tmp 17) _ rfl 3 _ keyedI Tryz.underlying78 rfl HM.out (zeroR _) _ _ rfl hkey.out _ _ HG.out HS.out ?_)
          | (go_at_call 44; refine cMy.out.mono ?_; rintro e W1 ⟨rfl, hb1⟩; have hb2 := hb.trans (hb1.mono hb.size); have gb1 := ((H.out.same hb2).ob.cell (j := 0) rfl : _ = some (Value.map (some mb)))))
          have hbd : Below w.heap.size w W1.drew := hb2.drew
          have hba : Below w.heap.size w (W1.alloc (.map #[] 0)).drew := (hb2.alloc hb2.size _).drew
          have cA := Lib.hid (clonei_calls l _ W1.drew (hIn.out.mono hbd hbd.size) (by omega))
          have cB := Lib.hid (clonei_calls l _ (W1.alloc (.map #[] 0)).drew (hIn.out.mono hba hba.size) (by omega))
          have hm40 := H.out.short HM.out HR.out
          have HPUT := Lib.hid (fun W (hB : Below w.heap.size w W) val => (HM.out.below hB hmb).put (tm := 78) keyedI Tryz.underlying78 (by unfold maxLen; omega) hkey.out (val := val))
          have HGB := Lib.hid (fun W (hB : Below w.heap.size w W) => (hB.cell (p := ⟨b, 0, none⟩) hbl).trans g0)
          have HGP := Lib.hid (fun (W W' : World) (h : W.cell? ⟨b, 0, none⟩ = some (.map (some mb))) (hg : W.grownBy W' (some mb)) => hg.cell h (fun e => H.out.ne (Option.some.inj e)))
          have HBA := Lib.hid hba
          have HBD := Lib.hid hbd
          have HB2 := Lib.hid hb2
          clear cMd cMy HR2 HR1 hIn hb hba hbd hb2
          go_region_held3 (fun W => W.cell? ⟨b, 0, none⟩ = some (.map (some mb))) (go_keep)
            (first
              | (go_at_call 45; refine cA.out.mono ?_; rintro e W2 ⟨⟨cv, rfl, hcv⟩, hb3⟩; have hB3 := HBD.out.trans (hb3.mono HBD.out.size); have gb2 := HGB.out _ hB3; have hB4 := hB3.alloc hB3.size (.map #[] 0); have gb4 := HGB.out _ hB4; obtain ⟨Ac, cc, rfl, -⟩ := (ItemsAt.of_own hcv).form; have HB4 := Lib.hid hB4; have HCV := Lib.hid ((LiAt.of_own (F := fun i => w.heap.size ≤ i ∧ i ≠ W2.heap.size) hcv (fun i h1 h2 => ⟨Nat.le_trans HBD.out.size h1, Nat.ne_of_lt h2⟩)).keep (Kept.of_below (Fr := fun i => i < W2.heap.size) ((Below.refl W2.heap.size W2).alloc (Nat.le_refl _) (.map #[] 0)) fun _ h => h) (F' := fun i => w.heap.size ≤ i ∧ i ≠ W2.heap.size) fun i h1 h2 => ⟨h1, h2⟩); obtain ⟨W3, hput, hM3, hg3⟩ := HPUT.out _ hB4 (.agg #[.int .i64 od, .slice Ac l.length cc, .slice none 0 0, .slice none 0 0, .map (some W2.heap.size)]); have gb3 := HGP.out _ _ gb4 hg3; have HB3 := Lib.hid hB3; have HM3 := Lib.hid hM3; have HG3 := Lib.hid hg3; clear hcv hb3 hB3 hM3 hg3)
              | (go_at_call 45; refine cB.out.mono ?_; rintro e W2 ⟨⟨cv, rfl, hcv⟩, hb3⟩; have hB3 := HBA.out.trans (hb3.mono HBA.out.size); have gb2 := HGB.out _ hB3; obtain ⟨Ac, cc, rfl, -⟩ := (ItemsAt.of_own hcv).form; have HCV := Lib.hid (LiAt.of_own (F := fun i => w.heap.size ≤ i ∧ i ≠ W1.heap.size) hcv (fun i h1 h2 => ⟨Nat.le_trans HBA.out.size h1, fun e => by simp [World.drew] at h1; omega⟩)); obtain ⟨W3, hput, hM3, hg3⟩ := HPUT.out _ hB3 (.agg #[.int .i64 od, .slice Ac l.length cc, .slice none 0 0, .slice none 0 0, .map (some W1.heap.size)]); have gb3 := HGP.out _ _ gb2 hg3; have hfm := Lib.hid (((GMap.made (K := intK) W1 Tryz.prog 3).below (Below.refl (W1.alloc (.map #[] 0)).heap.size _).drew (by simp)).below hb3 (by simp [World.drew])); have HB3 := Lib.hid hB3; have HM3 := Lib.hid hM3; have HG3 := Lib.hid hg3; clear hcv hb3 hB3 hM3 hg3))
          all_goals clear g0 gb1
          · go_wp2
            go_ret
            obtain ⟨f1, f2⟩ := open_fin H.out HR.out HB4.out HCV.out HB3.out.size (GMap.made (K := intK) W2 Tryz.prog 3) hod HML.out HL0.out HKN.out hbase HM3.out HG3.out
            exact ⟨⟨_, rfl, f1, HB3.out.size⟩, f2⟩
          · go_wp2
            go_ret
            obtain ⟨f1, f2⟩ := open_fin H.out HR.out HB3.out HCV.out HB2.out.size hfm.out hod HML.out HL0.out HKN.out hbase HM3.out HG3.out
            exact ⟨⟨_, rfl, f1, HB2.out.size⟩, f2⟩
end Pc
end Go.Proofs.YtdbkkldgobkjcaaGreat

namespace Go.Proofs.YtdbkkldgobkjcaaGreat
open Go.RowKit Go.Maps
namespace Pc
open It Mv

theorem zeroB (w : World) : (zeroValue 4).run Tryz.prog w = .ok (.bool false) w := by kernel_rfl
theorem isIn_val {d : Row} (h : OkR d) (r : Int) : (mGet d.fr r).getD (.bool false) = .bool (isIn d r) := by
  unfold isIn mGet
  cases hf : d.fr.find? (fun p => decide (p.1 = r)) with
  | none => rfl
  | some p =>
    have := (h.fr p (List.mem_of_find?_eq_some hf)).2.2
    simpa using this
theorem plus_fits {a b : List It.Item} (h : (plusOf a b).2 = 0) : Fits (plusOf a b).1 := fits_of (plusOf_M h)
theorem Fo_put {b mb : Nat} {X : Nat → Prop} {ds : List Row} {c d : Row} (hc : c ∈ ds) (e : d.fb = c.fb) {i : Nat} (h : Fo b mb X ds i) : Fo b mb X (putR ds d) i :=
  ⟨h.1, h.2.1, h.2.2.1, fun x hx => by
    rcases putR_mem hx with rfl | ⟨hx, -⟩
    · rw [e]; exact h.2.2.2 c hc
    · exact h.2.2.2 x hx⟩
/-- a row is changed: its new list is fresh, its map may be written -/
theorem set_fin {w W W3 : World} {base b mb : Nat} {X : Nat → Prop} {ds : List Row} {m : List (Int × Value)} {c d : Row} {val : Value} (H : PcAt w base b mb X ds) (hR : Rel w (Fo b mb X ds) m ds) (hc : c ∈ ds) (hod : d.od = c.od) (hfb : d.fb = c.fb) (hu : ∀ x ∈ ds, x.od = c.od → x = c)
    (hk : Kept (fun i => i < w.heap.size ∧ i ≠ c.fb) w W) (hd : OkR d) (hv : RowAt W (fun i => (i < w.heap.size ∧ Fo b mb X ds i) ∨ w.heap.size ≤ i) val d) (hf : GMap intK W Tryz.prog 3 c.fb d.fr)
    (hM3 : GMap intK W3 Tryz.prog 3 mb (mPut intK m d.od val)) (hg3 : W.grownBy W3 (some mb)) :
    PcAt W3 base b mb X (putR ds d) ∧ Other mb ds w W3 := by
  have hlt : ∀ x ∈ ds, x.fb < w.heap.size := fun x hx => GMap.lt (H.frm x hx)
  obtain ⟨m', hm', -⟩ := H.map
  have hmb := hm'.lt
  have hbl := H.ob.lt
  refine put_fin H hR (hk.mono fun i hi => ⟨hi.1, hi.2.2 c hc⟩) hd (hv.keep (Kept.refl (fun _ => True) _) fun i _ hi => ⟨trivial, ?_⟩) (by rw [hfb]; exact hf) (by rw [hfb]; exact H.sep c hc) (fun i _ hi => by rw [hfb]; exact hi.2.2.2 c hc) (fun x hx hne => ?_) (fun x hx hne => ?_) hM3 hg3
  · rcases hi with ⟨-, hi⟩ | hi
    · exact Fo_put hc hfb hi
    · refine ⟨by omega, by omega, fun hx => by have := H.xl i hx; omega, fun x hx => ?_⟩
      rcases putR_mem hx with rfl | ⟨hx, -⟩
      · rw [hfb]; have := hlt c hc; omega
      · have := hlt x hx; omega
  · rw [hfb]
    exact H.apart.mem hx hc (fun e => hne (by rw [e, hod]))
  · have h1 := H.frm x hx
    have h2 := H.apart.mem hx hc (fun e => hne (by rw [e, hod]))
    have h3 := h1.lt
    obtain ⟨es, clock, h4, F, h5, e⟩ := h1
    exact ⟨es, clock, (hk.block x.fb ⟨h3, h2⟩).trans h4, F, h5, e⟩
theorem uniq {ds : List Row} {w : World} {base b mb : Nat} {X : Nat → Prop} (H : PcAt w base b mb X ds) {m : List (Int × Value)} (hm : GMap intK w Tryz.prog 3 mb m) (hR : Rel w (Fo b mb X ds) m ds) : ∀ {c x : Row}, c ∈ ds → x ∈ ds → x.od = c.od → x = c := by
  have hs := hm.sorted keyedI
  have h1 : (m.map (·.1)).Pairwise (· < ·) := by
    rw [List.pairwise_map]
    exact hs.imp (fun {p q} h => by simpa [intK] using h)
  rw [hR.keys, List.pairwise_map] at h1
  clear hR hs H hm
  induction ds with
  | nil => intro c x hc; cases hc
  | cons y r ih =>
    rw [List.pairwise_cons] at h1
    intro c x hc hx e
    rcases List.mem_cons.1 hc with e1 | e1
    · rcases List.mem_cons.1 hx with e2 | e2
      · rw [e1, e2]
      · have := h1.1 x e2; rw [e1] at e; omega
    · rcases List.mem_cons.1 hx with e2 | e2
      · have := h1.1 c e1; rw [e2] at e; omega
      · exact ih h1.2 e1 e2 e

/-- a table at which some order is not known, or the list may not be: what row says -/
theorem rowVal_not {ds : List Row} {od : Int} {l : List It.Item} {m : List (Int × Value)} (h : rowCode ds od l ≠ 0) : rowVal ds od l m = zrow := by unfold rowVal; rw [if_neg h]

theorem mIns_mem {k : Int} {v : Value} {p : Int × Value} : ∀ {m : List (Int × Value)}, p ∈ mIns intK k v m → p = (k, v) ∨ p ∈ m
  | [], h => .inl (by simpa [mIns] using h)
  | c :: r, h => by
    unfold mIns at h
    split at h
    · rcases List.mem_cons.1 h with h | h
      · exact .inl h
      · exact .inr h
    · rcases List.mem_cons.1 h with h | h
      · exact .inr (by rw [h]; simp)
      · rcases mIns_mem h with h | h
        · exact .inl h
        · exact .inr (List.mem_cons_of_mem _ h)
theorem mPut_mem {k : Int} {v : Value} {p : Int × Value} {m : List (Int × Value)} (h : p ∈ mPut intK m k v) : p = (k, v) ∨ p ∈ m := by
  rcases mIns_mem h with h | h
  · exact .inl h
  · exact .inr (List.mem_filter.1 h).1
theorem ship_ok {d : Row} (hd : OkR d) {r : Int} {l : List It.Item} (hM : M l) (hr : 0 ≤ r ∧ r < 8) (h : (withinOf d.wa d.sh l).2 = 0) : OkR { d with sh := (withinOf d.wa d.sh l).1, fr := mPut intK d.fr r (.bool true) } := by
  obtain ⟨h1, h2, -, h4⟩ := within_ok hd.sh hM h
  refine ⟨hd.od, hd.wa, hd.some, h1, hd.ba, h2, (covers_iff h1 hd.ba).2 fun k => ?_, fun p hp => ?_⟩
  · have := (covers_iff hd.sh hd.ba).1 hd.cb k
    have := hM.nonneg k
    rw [h4 k]
    omega
  · rcases mPut_mem hp with rfl | hp
    · exact ⟨hr.1, by omega, rfl⟩
    · exact hd.fr p hp

set_option maxRecDepth 100000 in
set_option maxHeartbeats 8000000 in
theorem ship_calls (od r : Int) (l : List It.Item) (lv : Value) (base b mb : Nat) (X : Nat → Prop) (ds : List Row) (w : World) (h : PcAt w base b mb X ds) (hI : ItemsAt w 0 w.heap.size lv l) (hF : Fits l) (h0 : -9223372036854775808 ≤ od) (h1 : od ≤ 9223372036854775807) :
    Calls Tryz.prog 11 #[.pointer (some ⟨b, 0, none⟩), .int .i64 od, .int .i64 r, lv] w fun e w' => e = .returned (.int .i64 (shipOf ds od r l).2) ∧ PcAt w' base b mb X (shipOf ds od r l).1 ∧ Other mb ds w w' := by
  obtain ⟨m, hm, hR⟩ := h.map
  have g0 : w.cell? ⟨b, 0, none⟩ = some (.map (some mb)) := h.ob.cell (j := 0) rfl
  have hmb := hm.lt
  have hbl := h.ob.lt
  have cMd := Lib.hid (made_calls b mb _ g0)
  obtain ⟨hs, hv⟩ := h.val od hR
  have cR := row_calls od l lv b mb m ds w g0 hbl hm hs hv hI hF h0 h1
  have HM := Lib.hid hm
  have HR := Lib.hid hR
  have H := Lib.hid h
  have HI := Lib.hid hI
  have HS0 := Lib.hid (show shipOf ds od r l = if r < 0 ∨ 8 ≤ r then (ds, 1) else match findR ds od with
    | none => (ds, 4)
    | some d => if may l = false then (ds, 60) else if isIn d r then (ds, 5) else if (withinOf d.wa d.sh l).2 = 0 then (putR ds { d with sh := (withinOf d.wa d.sh l).1, fr := mPut intK d.fr r (.bool true) }, 0) else (ds, (withinOf d.wa d.sh l).2) from rfl)
  obtain ⟨Al, cl, rfl, -⟩ := hI.form
  generalize shipOf ds od r l = R at *
  have CR := Lib.hid cR
  clear hm hR h hI hs hv cR
  by_cases hbad : r < 0 ∨ 8 ≤ r
  · obtain rfl : R = (ds, 1) := by rw [HS0.out, if_pos hbad]
    have hcs : decide (r < 0) = true ∨ (decide (r < 0) = false ∧ decide (r ≥ 8) = true) := by
      by_cases e : r < 0
      · exact .inl (by simpa using e)
      · exact .inr ⟨by simpa using e, by simp; omega⟩
    clear hbad
    rcases hcs with e1 | ⟨e1, e2⟩
    all_goals
      go_enter Tryz.func11, Tryz.ntmps11
      go_wp2_with (go_at_call 43; refine cMd.out.mono ?_; rintro e W ⟨rfl, rfl⟩)
      go_ret
      exact ⟨rfl, H.out, Kept.refl _ _⟩
  · have e1 : decide (r < 0) = false := by simp; omega
    have e2 : decide (r ≥ 8) = false := by simp; omega
    have HS1 := Lib.hid (HS0.out.trans (if_neg hbad))
    clear HS0
    by_cases hrc : rowCode ds od l = 0
    · obtain ⟨d, hf, hml⟩ : ∃ d, findR ds od = some d ∧ may l = true := by
        unfold rowCode at hrc
        cases hf : findR ds od with
        | none => rw [hf] at hrc; simp at hrc
        | some d =>
          rw [hf] at hrc
          cases hml : may l with
          | false => rw [hml] at hrc; simp at hrc
          | true => exact ⟨d, rfl, rfl⟩
      obtain ⟨hmem, hdod⟩ := findR_mem hf
      have hd := H.out.ok d hmem
      obtain ⟨val, hg, v1, v2, v3, ev, i1, i2, i3⟩ := HR.out.some hf
      have e : rowVal ds od l m = rowV d v1 v2 v3 := by unfold rowVal; rw [if_pos hrc, hg, ← ev]; rfl
      have cR := CR.out
      rw [hrc, e] at cR
      have hS1 := HS1.out
      rw [hf] at hS1
      dsimp only at hS1
      rw [hml, if_neg (by simp)] at hS1
      have I1 := Lib.hid i1
      have I2 := Lib.hid i2
      have I3 := Lib.hid i3
      obtain ⟨A1, c1, rfl, -⟩ := i1.items.form
      obtain ⟨A2, c2, rfl, -⟩ := i2.items.form
      obtain ⟨A3, c3, rfl, -⟩ := i3.items.form
      simp only [rowV] at cR
      have CR2 := Lib.hid cR
      have HS2 := Lib.hid hS1
      have HF := Lib.hid (H.out.frm d hmem)
      have HD := Lib.hid hd
      have HIN := Lib.hid (isIn_val hd r)
      have hrr : 0 ≤ r ∧ r < 8 := by omega
      have hkeyR := Lib.hid (keyI (k := r) (by omega) (by omega))
      have HFL := Lib.hid (H.out.frm d hmem).lt
      have HE := Lib.hid (And.intro hf (And.intro hml (And.intro hmem hdod)))
      generalize isIn d r = ii at *
      clear CR HS1 hrc hg ev i1 i2 i3 e cR hS1 hbad hd hf hml hmem hdod
      cases ii with
      | true =>
        obtain rfl : R = (ds, 5) := by rw [HS2.out]; rfl
        go_enter Tryz.func11, Tryz.ntmps11
        go_wp2_with (go_at_call 43; refine cMd.out.mono ?_; rintro e W ⟨rfl, rfl⟩)
        refine CR2.out.mono ?_
        rintro e W ⟨rfl, hb1⟩
        have hb2 := hb1.alloc hb1.size (.cells #[.int .i64 d.od, .slice A1 d.wa.length c1, .slice A2 d.sh.length c2, .slice A3 d.ba.length c3, .map (some d.fb)] 87)
        have hlk := (HF.out.below hb2 HFL.out).look (tm := 85) keyedI Tryz.underlying85 (zeroB _) hkeyR.out
        rw [HIN.out] at hlk
        go_wp2
        go_ret
        exact ⟨rfl, H.out.same hb2, Other.of_below hb2⟩
      | false =>
        have HS3 := Lib.hid (HS2.out.trans (if_neg (by simp)))
        have cW := Lib.hid (fun W (hb : Below w.heap.size w W) => within_calls d.wa d.sh l _ _ _ W (I1.out.items.mono hb hb.size) (I2.out.items.mono hb hb.size) (HI.out.mono hb hb.size) (fits_of HD.out.wa) (fits_of HD.out.sh) hF plus_fits)
        go_enter Tryz.func11, Tryz.ntmps11
        go_wp2_with (go_at_call 43; refine cMd.out.mono ?_; rintro e W ⟨rfl, rfl⟩)
        refine CR2.out.mono ?_
        rintro e W ⟨rfl, hb1⟩
        have hb2 := hb1.alloc hb1.size (.cells #[.int .i64 d.od, .slice A1 d.wa.length c1, .slice A2 d.sh.length c2, .slice A3 d.ba.length c3, .map (some d.fb)] 87)
        have hO := Ob.new W 87 #[.int .i64 d.od, .slice A1 d.wa.length c1, .slice A2 d.sh.length c2, .slice A3 d.ba.length c3, .map (some d.fb)]
        have hlk := (HF.out.below hb2 HFL.out).look (tm := 85) keyedI Tryz.underlying85 (zeroB _) hkeyR.out
        rw [HIN.out] at hlk
        have cW2 := Lib.hid (cW.out _ hb2)
        have HW1 := Lib.hid hb1.size
        clear cW CR2 HS2 cMd
        by_cases hwc : (withinOf d.wa d.sh l).2 = 0
        · obtain rfl : R = (putR ds { d with sh := (withinOf d.wa d.sh l).1, fr := mPut intK d.fr r (.bool true) }, 0) := by rw [HS3.out, if_pos hwc]
          have HOK := Lib.hid (ship_ok (r := r) HD.out ((may_iff l).1 HE.out.2.1) hrr hwc)
          generalize hRW : withinOf d.wa d.sh l = RW at cW2 hwc
          obtain ⟨sl, sc⟩ := RW
          dsimp only at cW2 hwc
          subst hwc
          have HRW := Lib.hid hRW
          clear hRW
          go_wp2_with fail
          refine cW2.out.mono ?_
          rintro e W2 ⟨⟨vs, rfl, hvs⟩, hb3⟩
          have HVS := Lib.hid (LiAt.of_own (F := fun i => W.heap.size + 1 ≤ i) hvs (fun i hi _ => by simpa using hi))
          obtain ⟨As, cs, rfl, -⟩ := (ItemsAt.of_own hvs).form
          have hb4 := hb2.trans (hb3.mono hb2.size)
          have hO2 := hO.same hb3
          have hO3 := hO2.set 2 (.slice As sl.length cs)
          have hg3 := grownBy_set W2 W.heap.size 2 (.slice As sl.length cs)
          have hw1 := HW1.out
          have hb5 := hb4.grown hg3 hb4.size (fun g e => by cases e; exact hw1)
          have hfl := GMap.keys_len HF.out 0 8 (by omega) (fun p hp => by have := HD.out.fr p hp; omega)
          obtain ⟨W4, hput, hF4, hg4⟩ := (HF.out.below hb5 HFL.out).put (tm := 85) keyedI Tryz.underlying85 (by unfold maxLen; omega) hkeyR.out (val := .bool true)
          have HB5 := Lib.hid hb5
          have HG3 := Lib.hid hg3
          have HF4 := Lib.hid hF4
          have HG4 := Lib.hid hg4
          have hfl2 := HFL.out
          have hO4 := hO3.kept hg4 (fun e => by have := Option.some.inj e; omega)
          obtain ⟨q0, q1, q2, q3, q4⟩ := hO2.five
          have f2 := hO2.frozen 2
          clear hvs hb1 hb2 hb3 hb4 hb5 hg3 hF4 hg4 hO hlk hfl
          go_wp2_with fail
          have hdn : W4.grownBy W4.drew none := only_of_below (Below.refl _ W4).drew none
          have gbd : W4.drew.cell? ⟨b, 0, none⟩ = some (.map (some mb)) := HG4.out.cell ((HB5.out.cell (p := ⟨b, 0, none⟩) hbl).trans g0) (fun e => (H.out.sep d HE.out.2.2.1).1 (Option.some.inj e).symm)
          have hOd := hO4.kept hdn (by simp)
          have hMd := Lib.hid ((((HM.out.below HB5.out hmb).kept HG4.out (fun e => (H.out.sep d HE.out.2.2.1).2.1 (Option.some.inj e).symm))).kept hdn (by simp))
          have hm40 := H.out.short HM.out HR.out
          have hkey := Lib.hid (keyI h0 h1)
          clear q0 q1 q2 q3 q4 f2 hput hO2 hO3 hO4
          refine Pu.regionM [(0, false), (1, false), (2, false), (3, false), (4, false), (5, false), (6, true)] (fun V => Ob V W.heap.size 87 #[.int .i64 d.od, .slice A1 d.wa.length c1, .slice As sl.length cs, .slice A3 d.ba.length c3, .map (some d.fb)] ∧ V.cell? ⟨b, 0, none⟩ = some (.map (some mb))) hmx (by kernel_rfl) (by kernel_rfl) (by kernel_rfl) ⟨hOd, gbd⟩ rfl ?_
          simp only [Pu.named, List.filterMap_cons, List.filterMap_nil, List.getElem?_toArray, List.getElem?_cons_succ, List.getElem?_cons_zero, Option.map_some]
          iterate 6 (apply Pu.WalkM.on (by rfl)
                     · rintro V ⟨hOW, gW⟩
                       obtain ⟨q0, q1, q2, q3, q4⟩ := hOW.five
                       go_wp2_with fail
                       refine ⟨rfl, ?_, rfl⟩
                       try simp only [Act.put, List.setIfInBounds_toArray, List.set_cons_succ, List.set_cons_zero]
                       rfl
                     simp only [Act.put, List.setIfInBounds_toArray, List.set_cons_succ, List.set_cons_zero])
          refine Pu.WalkM.make (by rfl) ?_
          rintro V rfl
          refine wpList_put_g rfl (.tmp 58) (.tmp 59) (.tmp 60) _ rfl 3 _ keyedI Tryz.underlying78 rfl hMd.out (by unfold maxLen; omega) _ (.agg #[.int .i64 d.od, .slice A1 d.wa.length c1, .slice As sl.length cs, .slice A3 d.ba.length c3, .map (some d.fb)]) _ rfl rfl hkey.out ?_
          intro W5 hM5 hg5
          refine ⟨rfl, undef, (fun _ => True), (fun V => V = W5), rfl, rfl, (fun _ _ => trivial), (.inl (by kernel_rfl)), Pu.WalkM.nil ?_⟩
          rintro V rfl
          simp only [Act.put]
          have hk4 : Kept (fun i => i < w.heap.size ∧ i ≠ d.fb) w W4.drew := (Kept.of_below HB5.out fun _ hi => hi.1).trans ((Kept.of_grown HG4.out fun i hi => ⟨Nat.lt_of_lt_of_le hi.1 HB5.out.size, fun e => hi.2 (Option.some.inj e)⟩).trans (Kept.of_below (Below.refl W4.heap.size W4).drew fun i hi => Nat.lt_of_lt_of_le hi.1 (Nat.le_trans HB5.out.size HG4.out.size)))
          have hks : Kept (fun i => i < W2.heap.size ∧ W.heap.size + 1 ≤ i) W2 W4.drew := (Kept.of_grown HG3.out fun i hi => ⟨hi.1, fun e => by have := Option.some.inj e; omega⟩).trans ((Kept.of_grown HG4.out fun i hi => ⟨Nat.lt_of_lt_of_le hi.1 HG3.out.size, fun e => by have := Option.some.inj e; omega⟩).trans (Kept.of_below (Below.refl W4.heap.size W4).drew fun i hi => Nat.lt_of_lt_of_le hi.1 (Nat.le_trans HG3.out.size HG4.out.size)))
          rw [show od = d.od from HE.out.2.2.2.symm] at hM5
          obtain ⟨f1, f2⟩ := set_fin (d := { d with sh := sl, fr := mPut intK d.fr r (.bool true) }) H.out HR.out HE.out.2.2.1 rfl rfl (fun x hx e => uniq H.out HM.out HR.out HE.out.2.2.1 hx e) hk4 (by have := HOK.out; rw [HRW.out] at this; exact this)
            ⟨_, _, _, rfl, I1.out.keep hk4 (fun i hi hf => ⟨⟨hi, hf.2.2.2 d HE.out.2.2.1⟩, .inl ⟨hi, hf⟩⟩), HVS.out.keep hks (fun i hi hf => ⟨⟨hi, hf⟩, .inr (by omega)⟩), I3.out.keep hk4 (fun i hi hf => ⟨⟨hi, hf.2.2.2 d HE.out.2.2.1⟩, .inl ⟨hi, hf⟩⟩)⟩ (HF4.out.kept hdn (by simp)) hM5 hg5
          have F1 := Lib.hid f1
          have F2 := Lib.hid f2
          clear f1 f2 hM5 hg5
          go_wp2
          go_ret
          exact ⟨rfl, by rw [HRW.out]; exact F1.out, F2.out⟩
        · have hwb : ((withinOf d.wa d.sh l).2 == 0) = false := by simpa using hwc
          obtain rfl : R = (ds, (withinOf d.wa d.sh l).2) := by rw [HS3.out, if_neg hwc]
          generalize hRW : withinOf d.wa d.sh l = RW at cW2 hwb
          have HRW := Lib.hid hRW
          clear hRW
          go_wp2_with fail
          refine cW2.out.mono ?_
          rintro e W2 ⟨⟨v, rfl, hv⟩, hb3⟩
          have hb4 := hb2.trans (hb3.mono hb2.size)
          go_wp2
          go_ret
          exact ⟨by rw [HRW.out]; rfl, H.out.same hb4, Other.of_below hb4⟩
    · have hRc : R = (ds, rowCode ds od l) := by
        rw [HS1.out]
        unfold rowCode
        cases hf : findR ds od with
        | none => rfl
        | some d =>
          cases hml : may l with
          | false => rfl
          | true => unfold rowCode at hrc; rw [hf, hml] at hrc; simp at hrc
      subst hRc
      have hrb : (rowCode ds od l != 0) = true := by simpa using hrc
      have cR := CR.out
      rw [rowVal_not hrc] at cR
      simp only [zrow] at cR
      have CR2 := Lib.hid cR
      generalize rowCode ds od l = RC at *
      clear cR CR HS1 hrc
      go_enter Tryz.func11, Tryz.ntmps11
      go_wp2_with (go_at_call 43; refine cMd.out.mono ?_; rintro e W ⟨rfl, rfl⟩)
      refine CR2.out.mono ?_
      rintro e W ⟨rfl, hb1⟩
      have hb2 := hb1.alloc hb1.size (.cells #[.int .i64 0, .slice none 0 0, .slice none 0 0, .slice none 0 0, .map none] 87)
      go_wp2
      go_ret
      exact ⟨rfl, H.out.same hb2, Other.of_below hb2⟩
end Pc
end Go.Proofs.YtdbkkldgobkjcaaGreat
