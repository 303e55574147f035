/-
  parcels: what they are, and what each call makes of them: plain.
-/
import Derived.Test.YtdbkkldgobkjcaaMvD
import Derived.Test.YtdbkkldgobkjcaaItP
namespace Go.Proofs.Ytdbkkldgobkjcaa
open Go.RowKit Go.Maps
namespace Pc
open It Mv

/-- a parcel: its order, its three lists, the map of regions it was shipped from, that map's block -/
structure Row where
  od : Int
  wa : List It.Item
  sh : List It.Item
  ba : List It.Item
  fr : List (Int × Value)
  fb : Nat
/-- what may stand in a table of parcels -/
structure OkR (d : Row) : Prop where
  od : 1 ≤ d.od ∧ d.od ≤ 1099511627776
  wa : M d.wa
  some : d.wa ≠ []
  sh : M d.sh
  ba : M d.ba
  cs : covers d.wa d.sh = true
  cb : covers d.sh d.ba = true
  fr : ∀ p ∈ d.fr, 0 ≤ p.1 ∧ p.1 ≤ 7 ∧ p.2 = .bool true

def findR (ds : List Row) (k : Int) : Option Row := ds.find? fun d => decide (d.od = k)
theorem findR_cons (d : Row) (ds : List Row) (k : Int) : findR (d :: ds) k = if d.od = k then some d else findR ds k := by
  unfold findR
  rw [List.find?_cons]
  by_cases h : d.od = k <;> simp [h]
theorem findR_mem {ds : List Row} {k : Int} {d : Row} (h : findR ds k = some d) : d ∈ ds ∧ d.od = k := by
  unfold findR at h
  exact ⟨List.mem_of_find?_eq_some h, by simpa using List.find?_some h⟩
def insR (d : Row) : List Row → List Row
  | [] => [d]
  | c :: r => if d.od < c.od then d :: c :: r else c :: insR d r
def delR (ds : List Row) (k : Int) : List Row := ds.filter fun d => !decide (d.od = k)
def putR (ds : List Row) (d : Row) : List Row := insR d (delR ds d.od)
theorem insR_perm (d : Row) : ∀ ds : List Row, (insR d ds).Perm (d :: ds)
  | [] => List.Perm.refl _
  | c :: r => by
    unfold insR
    split
    · exact List.Perm.refl _
    · exact ((insR_perm d r).cons c).trans (List.Perm.swap d c r)
theorem delR_mem {ds : List Row} {k : Int} {x : Row} (h : x ∈ delR ds k) : x ∈ ds ∧ x.od ≠ k := by
  have := List.mem_filter.1 h
  exact ⟨this.1, by simpa using this.2⟩
theorem putR_mem {d x : Row} {ds : List Row} (h : x ∈ putR ds d) : x = d ∨ (x ∈ ds ∧ x.od ≠ d.od) := by
  have h1 := (insR_perm d (delR ds d.od)).mem_iff.1 h
  rcases List.mem_cons.1 h1 with h | h
  · exact .inl h
  · exact .inr (delR_mem h)
theorem putR_self (d : Row) (ds : List Row) : d ∈ putR ds d := (insR_perm d (delR ds d.od)).mem_iff.2 (by simp)
theorem findR_ins_same {d : Row} : ∀ {ds : List Row}, findR ds d.od = none → findR (insR d ds) d.od = some d
  | [], _ => by rw [insR, findR_cons, if_pos rfl]
  | c :: r, h => by
    rw [findR_cons] at h
    by_cases e : c.od = d.od
    · rw [if_pos e] at h; cases h
    · rw [if_neg e] at h
      unfold insR
      split
      · rw [findR_cons, if_pos rfl]
      · rw [findR_cons, if_neg e]
        exact findR_ins_same h
theorem findR_ins_other {d : Row} {k : Int} (hk : d.od ≠ k) : ∀ {ds : List Row}, findR (insR d ds) k = findR ds k
  | [] => by rw [insR, findR_cons, if_neg hk]
  | c :: r => by
    unfold insR
    split
    · rw [findR_cons, if_neg hk]
    · rw [findR_cons, findR_cons, findR_ins_other hk]
theorem findR_del_same (k : Int) : ∀ (ds : List Row), findR (delR ds k) k = none
  | [] => rfl
  | c :: r => by
    unfold delR
    rw [List.filter_cons]
    split
    · rename_i h
      rw [findR_cons, if_neg (by simpa using h)]
      exact findR_del_same k r
    · exact findR_del_same k r
theorem findR_del_other {j k : Int} (hne : k ≠ j) : ∀ (ds : List Row), findR (delR ds j) k = findR ds k
  | [] => rfl
  | c :: r => by
    unfold delR
    rw [List.filter_cons]
    split
    · rw [findR_cons, findR_cons]
      rw [show findR (r.filter _) k = findR r k from findR_del_other hne r]
    · rename_i h
      rw [findR_cons, if_neg (by simp at h; omega)]
      exact findR_del_other hne r
theorem findR_put (ds : List Row) (d : Row) (k : Int) : findR (putR ds d) k = if d.od = k then some d else findR ds k := by
  unfold putR
  by_cases e : d.od = k
  · rw [if_pos e, ← e]
    exact findR_ins_same (findR_del_same _ _)
  · rw [if_neg e, findR_ins_other e, findR_del_other (fun h => e h.symm)]

/-- the blocks of the maps are different ones -/
def Apart (ds : List Row) : Prop := ds.Pairwise fun c d => c.fb ≠ d.fb
theorem Apart.mem {ds : List Row} (h : Apart ds) : ∀ {c d : Row}, c ∈ ds → d ∈ ds → c ≠ d → c.fb ≠ d.fb := by
  unfold Apart at h
  induction ds with
  | nil => intro c d hc; cases hc
  | cons x r ih =>
    intro c d hc hd hne
    rw [List.pairwise_cons] at h
    rcases List.mem_cons.1 hc with e1 | h1
    · rcases List.mem_cons.1 hd with e2 | h2
      · exact (hne (e1.trans e2.symm)).elim
      · rw [e1]; exact h.1 d h2
    · rcases List.mem_cons.1 hd with e2 | h2
      · rw [e2]; exact fun e => h.1 c h1 e.symm
      · exact ih h.2 h1 h2 hne
theorem Apart.put {ds : List Row} (h : Apart ds) {d : Row} (hd : ∀ c ∈ ds, c.od ≠ d.od → c.fb ≠ d.fb) : Apart (putR ds d) := by
  unfold Apart putR at *
  refine (insR_perm d (delR ds d.od)).symm.pairwise (List.pairwise_cons.2 ⟨fun c hc => ?_, List.Pairwise.sublist List.filter_sublist h⟩) (fun h e => h e.symm)
  have := delR_mem hc
  exact fun e => hd c this.1 this.2 e.symm

def openOf (ds : List Row) (od : Int) (wa : List It.Item) (fb : Nat) : List Row × Int :=
  if od < 1 ∨ 1099511627776 < od then (ds, 1)
  else if may wa = false ∨ wa = [] then (ds, 60)
  else if (findR ds od).isSome then (ds, 5)
  else (putR ds ⟨od, wa, [], [], [], fb⟩, 0)
def rowCode (ds : List Row) (od : Int) (l : List It.Item) : Int := if (findR ds od).isSome then (if may l then 0 else 60) else 4
/-- two lists together, if another one covers them -/
def withinOf (all a b : List It.Item) : List It.Item × Int := if (plusOf a b).2 = 0 ∧ covers all (plusOf a b).1 = true then ((plusOf a b).1, 0) else ([], 50)
def isIn (d : Row) (r : Int) : Bool := (mGet d.fr r).isSome
def shipOf (ds : List Row) (od r : Int) (l : List It.Item) : List Row × Int :=
  if r < 0 ∨ 8 ≤ r then (ds, 1)
  else match findR ds od with
  | none => (ds, 4)
  | some d =>
    if may l = false then (ds, 60)
    else if isIn d r then (ds, 5)
    else if (withinOf d.wa d.sh l).2 = 0 then (putR ds { d with sh := (withinOf d.wa d.sh l).1, fr := mPut intK d.fr r (.bool true) }, 0)
    else (ds, (withinOf d.wa d.sh l).2)
def backOf (ds : List Row) (od : Int) (l : List It.Item) : List Row × Int := match findR ds od with
  | none => (ds, 4)
  | some d =>
    if may l = false then (ds, 60)
    else if (withinOf d.sh d.ba l).2 = 0 then (putR ds { d with ba := (withinOf d.sh d.ba l).1 }, 0)
    else (ds, (withinOf d.sh d.ba l).2)
def undoOf (ds : List Row) (od : Int) (l : List It.Item) : List Row × Int := match findR ds od with
  | none => (ds, 4)
  | some d =>
    if may l = false then (ds, 60)
    else if (minusOf d.ba l).2 = 0 then (putR ds { d with ba := (minusOf d.ba l).1 }, 0)
    else (ds, (minusOf d.ba l).2)

theorem covers_nil {a : List It.Item} (ha : M a) : covers a [] = true := (covers_iff ha ((may_iff []).1 (by decide +kernel))).2 fun k => by simpa [tot] using ha.nonneg k
theorem within_ok {all a b : List It.Item} (ha : M a) (hb : M b) (h : (withinOf all a b).2 = 0) :
    M (withinOf all a b).1 ∧ covers all (withinOf all a b).1 = true ∧ (withinOf all a b).1 = (plusOf a b).1 ∧ (∀ k, tot k (withinOf all a b).1 = tot k a + tot k b) := by
  unfold withinOf at h ⊢
  split
  · rename_i hc
    obtain ⟨h1, h2⟩ := plus_cases ha hb hc.1
    exact ⟨h1, hc.2, rfl, h2⟩
  · rename_i hc
    rw [if_neg hc] at h
    simp at h
theorem ofSum_within {all a b : List It.Item} (ha : M a) (hb : M b) (h : (withinOf all a b).2 = 0) (s : ByteArray) :
    ofSum s (withinOf all a b).1 = ofSum s a + ofSum s b := by
  obtain ⟨h1, -, -, h2⟩ := within_ok ha hb h
  rw [h1.of, ha.of, hb.of]
  exact h2 _
theorem ofSum_covers {a b : List It.Item} (ha : M a) (hb : M b) (h : covers a b = true) (s : ByteArray) : ofSum s b ≤ ofSum s a := by
  rw [ha.of, hb.of]
  exact (covers_iff ha hb).1 h _
theorem minus_ok {a b : List It.Item} (ha : M a) (hb : M b) (h : (minusOf a b).2 = 0) : M (minusOf a b).1 ∧ covers a (minusOf a b).1 = true := by
  have e1 : minusOf a b = if covers a b then (both restF a b, 0) else ([], 51) := by unfold minusOf; rw [(may_iff a).2 ha, (may_iff b).2 hb]; rfl
  rw [e1] at h ⊢
  cases hc : covers a b with
  | false => rw [hc] at h; simp at h
  | true =>
    simp only [if_true]
    rw [both_of ha hb]
    refine ⟨rest_M ha hb, (covers_iff ha (rest_M ha hb)).2 fun k => ?_⟩
    rw [rest_tot ha hb]
    have := ha.nonneg k
    have := hb.nonneg k
    omega
end Pc
end Go.Proofs.Ytdbkkldgobkjcaa
