/-
  words for maps that the program keeps: a block reads as a list of keys and values, in the keys' order.
  append onto a row of the call's own from a slice that is known, as one step of a region that draws its order.
  cells of numbers: a number's cell, as the program and as the document make it.
  the device of sectors in plain words.
  the device of sectors in plain words: what every call keeps.
  sector: the document's device in plain words; that it goes along with the program's.
  the log in plain words: streams, sectors, heads.
  the log in plain words: what its calls do to a device; two devices that go along.
  the log in plain words: on a device whose power does not go, what was put down is found.
  the log in plain words: opened behind a crash; the program's device and the document's.
  objects in memory: a block of some cells that may be written; what else is kept.
  sectors in memory: ranges of bytes in a block.
  'for k, v := range m' over a map with int keys that the program keeps, in whatever order.
  clear(m) of a map that the program keeps.
  sector: the device in memory; New, made, is, Len, Off.
  sector: made, is, Len, Off, spend, Stop.
-/
import Derived.Test.YteiniahikhiadaaWn1
import Derived.Maps.OwnOps
import Derived.Maps.OwnSet
import Derived.Maps.Ext
import Derived.Maps.OwnIn
import Derived.Deep.RegionLaw
import Derived.Laws.OwnMore
import Derived.Lib.Zigzag
import Derived.RangeFuncNested
import Derived.Deep.MidRow
import Derived.Deep.AppendLies
import Derived.Laws.MakeOwn
import Derived.Maps.RangeWalk
import Derived.MapFrom
import Derived.ChangeMaps5
import Derived.OwnWalk

set_option linter.unusedVariables false
set_option linter.unusedSimpArgs false
namespace Go.Proofs.Yteiniahikhiadaa
open Go.RowKit Go.Maps

/-- a kind of keys -/
structure KeyK (κ : Type) [DecidableEq κ] where
  lit : κ → Lit
  lt : κ → κ → Bool
  before : ∀ a b, (lit a).before (lit b) = lt a b
  same : ∀ a b, (lit a).sameKey (lit b) = decide (a = b)
  isKey : ∀ a, WideAt.IsKeyLit (lit a)

def intK : KeyK Int where
  lit := Lit.int .i64
  lt a b := decide (a < b)
  before a b := rfl
  same a b := by simp [Lit.sameKey]
  isKey _ := trivial
def strK : KeyK (List UInt8) where
  lit := Lit.string
  lt a b := bytesBefore a b
  before a b := rfl
  same a b := by
    simp only [Lit.sameKey]
    rw [Bool.eq_iff_iff]; simp
  isKey _ := trivial

section
variable {κ : Type} [DecidableEq κ] (K : KeyK κ)
def mGet (m : List (κ × Value)) (k : κ) : Option Value := (m.find? (fun p => decide (p.1 = k))).map (·.2)
def mIns (k : κ) (v : Value) : List (κ × Value) → List (κ × Value)
  | [] => [(k, v)]
  | p :: r => if K.lt k p.1 then (k, v) :: p :: r else p :: mIns k v r
def mDel (m : List (κ × Value)) (k : κ) : List (κ × Value) := m.filter (fun p => !decide (p.1 = k))
def mPut (m : List (κ × Value)) (k : κ) (v : Value) : List (κ × Value) := mIns K k v (mDel m k)
/-- the map's datum -/
def mEs (m : List (κ × Value)) : List (Lit × DataW Value) := m.map fun p => (K.lit p.1, .held p.2)
def hold (v : Value) : Option (DataW Value × List MemPlace) := some (.held v, [])

theorem mEs_ins (k : κ) (v : Value) (m : List (κ × Value)) : DataW.insert (K.lit k, .held v) (mEs K m) = mEs K (mIns K k v m) := by
  induction m with
  | nil => rfl
  | cons p r ih =>
    simp only [mEs, List.map_cons, DataW.insert, mIns] at ih ⊢
    rw [K.before]
    split
    · simp
    · rw [ih]; simp
theorem mEs_del (k : κ) (m : List (κ × Value)) : (mEs K m).filter (fun p => !p.1.sameKey (K.lit k)) = mEs K (mDel m k) := by
  induction m with
  | nil => rfl
  | cons p r ih =>
    simp only [mEs, List.map_cons, mDel, List.filter_cons, K.same] at ih ⊢
    split <;> simp_all
theorem mEs_put (k : κ) (v : Value) (m : List (κ × Value)) : (DataW.map (mEs K m)).put (K.lit k) (.held v) = .map (mEs K (mPut K m k v)) := by
  simp only [DataW.put, mPut]
  rw [mEs_del, mEs_ins]
theorem mEs_get (k : κ) (z : Value) (m : List (κ × Value)) : (DataW.map (mEs K m)).atKey (K.lit k) (.held z) = .held ((mGet m k).getD z) := by
  induction m with
  | nil => rfl
  | cons p r ih =>
    simp only [mEs, DataW.atKey, mGet, List.map_cons, List.find?_cons, K.same] at ih ⊢
    by_cases h : p.1 = k
    · simp [h]
    · simp only [h, decide_false]; exact ih
theorem mEs_has (k : κ) (m : List (κ × Value)) : Maps.has (DataW.map (mEs K m)) (K.lit k) = (mGet m k).isSome := by
  induction m with
  | nil => rfl
  | cons p r ih =>
    simp only [mEs, List.map_cons, Maps.has, mGet, List.find?_cons, List.any_cons, K.same] at ih ⊢
    by_cases h : p.1 = k <;> simp_all

/-- block b is a map that reads as m -/
def GMap (w : World) (P : Program) (t : TypeId) (b : Nat) (m : List (κ × Value)) : Prop := w.ownsMap (H := Value) P t hold b m.length (.map (mEs K m))

variable {K}
variable {w w' : World} {P : Program} {t : TypeId} {b : Nat} {m : List (κ × Value)}
theorem GMap.of {n : Nat} (h : w.ownsMap (H := Value) P t hold b n (.map (mEs K m))) : GMap K w P t b m := by
  obtain ⟨es, clock, hb, F, _, e⟩ := h
  refine ⟨es, clock, hb, F, ?_, e⟩
  have h1 := congrArg Maps.size e
  simp [Maps.size, length_sorted, mEs] at h1
  omega
theorem GMap.made (w : World) (P : Program) (t : TypeId) : GMap K (w.alloc (.map #[] 0)) P t w.heap.size [] := World.ownsMap_made w P t hold
theorem GMap.kept {row : Option Nat} (h : GMap K w P t b m) (hg : w.grownBy w' row) (hne : some b ≠ row) : GMap K w' P t b m := World.ownsMap.kept h hg hne
theorem GMap.lt (h : GMap K w P t b m) : b < w.heap.size := World.ownsMap.lt h
theorem GMap.below {B : Nat} (h : GMap K w P t b m) (hb : Below B w w') (hB : b < B) : GMap K w' P t b m := by
  obtain ⟨es, clock, h1, F, h2, e⟩ := h
  exact ⟨es, clock, (hb.block b hB).trans h1, F, h2, e⟩
theorem GMap.sorted (h : GMap K w P t b m) (KK : Keyed P t) : m.Pairwise (fun p q => K.lt p.1 q.1 = true) := by
  obtain ⟨es, e, h1, _⟩ := World.ownsMap.canon h KK
  injection e with e
  subst e
  simp only [mEs, List.pairwise_map, K.before] at h1
  exact h1
theorem GMap.look {tm e : TypeId} (h : GMap K w P t b m) (KK : Keyed P t) (ht : P.underlying tm = some (.map t e)) {z : Value} (hz : (zeroValue e).run P w = .ok z w) {key : Value} {k : κ} (hkey : keyOf P t key = some (K.lit k)) :
    (Instr.lookup tm (.map (some b)) key false).run P w = .ok ((mGet m k).getD z) w := by
  obtain ⟨v, ps, hrun, hv⟩ := World.ownsMap.lookup h KK ht hz (zd := .held z) (zp := []) rfl hkey
  rw [mEs_get] at hv
  have e : v = (mGet m k).getD z := by simp only [hold, Option.some.injEq, Prod.mk.injEq, DataW.held.injEq] at hv; exact hv.1
  rw [hrun, e]
theorem GMap.look_ok {tm e : TypeId} (h : GMap K w P t b m) (KK : Keyed P t) (ht : P.underlying tm = some (.map t e)) {z : Value} (hz : (zeroValue e).run P w = .ok z w) {key : Value} {k : κ} (hkey : keyOf P t key = some (K.lit k)) :
    (Instr.lookup tm (.map (some b)) key true).run P w = .ok (.tuple #[(mGet m k).getD z, .bool (mGet m k).isSome]) w := by
  obtain ⟨v, ps, hrun, hv⟩ := World.ownsMap.look_ok h KK ht hz (zd := .held z) (zp := []) rfl hkey
  rw [mEs_get] at hv
  have e : v = (mGet m k).getD z := by simp only [hold, Option.some.injEq, Prod.mk.injEq, DataW.held.injEq] at hv; exact hv.1
  rw [hrun, e, mEs_has]
theorem GMap.put {tm e : TypeId} (h : GMap K w P t b m) (KK : Keyed P t) (ht : P.underlying tm = some (.map t e)) (hn : m.length < maxLen) {key val : Value} {k : κ} (hkey : keyOf P t key = some (K.lit k)) :
    ∃ w', (Instr.mapUpdate tm (.map (some b)) key val).run P w = .ok () w' ∧ GMap K w' P t b (mPut K m k val) ∧ w.grownBy w' (some b) := by
  obtain ⟨w', hrun, h1, h2⟩ := World.ownsMap.update h KK ht hn hkey (val := val) (d := .held val) (ps := []) rfl
  rw [mEs_put] at h1
  exact ⟨w', hrun, GMap.of h1, h2⟩
theorem GMap.del {tm e : TypeId} (h : GMap K w P t b m) (KK : Keyed P t) (ht : P.underlying tm = some (.map t e)) {key : Value} {k : κ} (hkey : keyOf P t key = some (K.lit k)) (ty : TypeId) :
    ∃ w', (Builtin.delete_ #[tm, t] ty #[.map (some b), key]).run P w = .ok (.tuple #[]) w' ∧ GMap K w' P t b (mDel m k) ∧ w.grownBy w' (some b) := by
  obtain ⟨w', hrun, h1, h2⟩ := World.ownsMap.drop h KK ht hkey ty
  simp only [DataW.del] at h1
  rw [mEs_del] at h1
  exact ⟨w', hrun, GMap.of h1, h2.grown⟩
theorem GMap.len {tm e : TypeId} (h : GMap K w P t b m) (ht : P.underlying tm = some (.map t e)) (ty : TypeId) : (Builtin.len_ #[tm] ty #[.map (some b)]).run P w = .ok (.int .i64 m.length) w := by
  rw [World.ownsMap.len h ht ty]
  simp [Maps.size, mEs]
end

section
variable {κ : Type} [DecidableEq κ] {K : KeyK κ} {P : Program} {w : World} {b : Nat} {m : List (κ × Value)} {ops : Array Oper} {rest : List Oper} {o : Oper} {a : Act} {Q : Exit → Act → World → Prop}
theorem wpList_put_g (hg : o.guard = none) (x y z : Operand) (tm : TypeId) (hop : o.op = Op.mapUpdate tm x y z) (t e : TypeId) (KK : Keyed P t) (ht : P.underlying tm = some (.map t e))
    (hm : a.eval x = .map (some b)) (h : GMap K w P t b m) (hn : m.length < maxLen) (key val : Value) (k : κ) (hx : a.eval y = key) (hv : a.eval z = val) (hkey : keyOf P t key = some (K.lit k))
    (hK : ∀ w', GMap K w' P t b (mPut K m k val) → w.grownBy w' (some b) → wpList P ops Q rest (a.put o.dst undef) w') :
    wpList P ops Q (o :: rest) a w := by
  refine wpList_plain hg fun K' hK' => ?_
  obtain ⟨w', hrun, r1, r2⟩ := h.put KK ht hn hkey (val := val)
  unfold Oper.wp
  simp [execOp, hop, hm, hx, hv, hrun, Result.andThen]
  exact hK' _ _ (hK w' r1 r2)
theorem wpList_del_g (hg : o.guard = none) (x y : Operand) (tm t : TypeId) (hop : o.op = Op.call { callee := Callee.builtin Builtin.delete, args := #[x, y], argTypes := #[tm, t] })
    (e : TypeId) (KK : Keyed P t) (ht : P.underlying tm = some (.map t e)) (hm : a.eval x = .map (some b)) (h : GMap K w P t b m) (key : Value) (k : κ) (hx : a.eval y = key) (hkey : keyOf P t key = some (K.lit k))
    (hK : ∀ w', GMap K w' P t b (mDel m k) → w.grownBy w' (some b) → wpList P ops Q rest (a.put o.dst (.tuple #[])) w') :
    wpList P ops Q (o :: rest) a w := by
  refine wpList_plain hg fun K' hK' => ?_
  obtain ⟨w', hrun, r1, r2⟩ := h.del KK ht hkey o.type
  unfold Oper.wp
  simp [execOp, hop, resolve, invoke, builtin, hm, hx, hrun, Result.andThen]
  exact hK' _ _ (hK w' r1 r2)
theorem wpList_look_g (hg : o.guard = none) (x y : Operand) (tm : TypeId) (hop : o.op = Op.lookup tm x y false) (t e : TypeId) (KK : Keyed P t) (ht : P.underlying tm = some (.map t e))
    (hm : a.eval x = .map (some b)) (h : GMap K w P t b m) {z : Value} (hz : (zeroValue e).run P w = .ok z w) (key : Value) (k : κ) (hx : a.eval y = key) (hkey : keyOf P t key = some (K.lit k))
    (r : Value) (hr : (mGet m k).getD z = r) (hK : wpList P ops Q rest (a.put o.dst r) w) :
    wpList P ops Q (o :: rest) a w := by
  refine wpList_plain hg fun K' hK' => ?_
  have hrun := h.look KK ht hz hkey
  rw [hr] at hrun
  unfold Oper.wp
  simp [execOp, hop, hm, hx, hrun, Result.andThen]
  exact hK' _ _ hK
theorem wpListIn_put_g {F : Fence} {N : Nat} (hg : o.guard = none) (x y z : Operand) (tm : TypeId) (hop : o.op = Op.mapUpdate tm x y z) (t e : TypeId) (KK : Keyed P t) (ht : P.underlying tm = some (.map t e))
    (hm : a.eval x = .map (some b)) (h : GMap K w P t b m) (hn : m.length < maxLen) (key val : Value) (k : κ) (hx : a.eval y = key) (hv : a.eval z = val) (hkey : keyOf P t key = some (K.lit k))
    (hK : ∀ w', GMap K w' P t b (mPut K m k val) → w.grownBy w' (some b) → wpListIn F N P ops Q rest (a.put o.dst undef) w') :
    wpListIn F N P ops Q (o :: rest) a w := by
  refine wpListIn_plain hg fun K' hK' => ?_
  obtain ⟨w', hrun, r1, r2⟩ := h.put KK ht hn hkey (val := val)
  unfold Oper.wpIn
  refine ⟨by simp [Oper.about, hop], ?_⟩
  rw [Oper.semAt_eq _ _ _ (by rw [hop]; intro c hc; cases hc)]
  simp [execOp, hop, hm, hx, hv, hrun, Result.andThen]
  exact hK' _ _ (hK w' r1 r2)
theorem wpListIn_look_g {F : Fence} {N : Nat} (hg : o.guard = none) (x y : Operand) (tm : TypeId) (hop : o.op = Op.lookup tm x y false) (t e : TypeId) (KK : Keyed P t) (ht : P.underlying tm = some (.map t e))
    (hm : a.eval x = .map (some b)) (h : GMap K w P t b m) {z : Value} (hz : (zeroValue e).run P w = .ok z w) (key : Value) (k : κ) (hx : a.eval y = key) (hkey : keyOf P t key = some (K.lit k))
    (r : Value) (hr : (mGet m k).getD z = r) (hK : wpListIn F N P ops Q rest (a.put o.dst r) w) :
    wpListIn F N P ops Q (o :: rest) a w := by
  refine wpListIn_plain hg fun K' hK' => ?_
  have hrun := h.look KK ht hz hkey
  rw [hr] at hrun
  unfold Oper.wpIn
  refine ⟨by simp [Oper.about, hop], ?_⟩
  rw [Oper.semAt_eq _ _ _ (by rw [hop]; intro c hc; cases hc)]
  simp [execOp, hop, hm, hx, hrun, Result.andThen]
  exact hK' _ _ hK
end

/-! the lists -/
section
variable {κ : Type} [DecidableEq κ] {K : KeyK κ}
theorem mGet_cons (p : κ × Value) (m : List (κ × Value)) (k : κ) : mGet (p :: m) k = if p.1 = k then some p.2 else mGet m k := by
  unfold mGet
  rw [List.find?_cons]
  by_cases h : p.1 = k <;> simp [h]
theorem mGet_ins_same (m : List (κ × Value)) (k : κ) (v : Value) (h : mGet m k = none) : mGet (mIns K k v m) k = some v := by
  induction m with
  | nil => simp [mIns, mGet]
  | cons p r ih =>
    rw [mGet_cons] at h
    have h1 : p.1 ≠ k := by intro e; rw [if_pos e] at h; cases h
    rw [if_neg h1] at h
    unfold mIns
    split
    · simp [mGet_cons]
    · rw [mGet_cons, if_neg h1]; exact ih h
theorem mGet_ins_other (m : List (κ × Value)) (k k' : κ) (v : Value) (hne : k' ≠ k) : mGet (mIns K k v m) k' = mGet m k' := by
  induction m with
  | nil => simp [mIns, mGet_cons, hne.symm]
  | cons p r ih =>
    unfold mIns
    split
    · rw [mGet_cons, if_neg hne.symm]
    · rw [mGet_cons, mGet_cons, ih]
theorem mGet_del_same (m : List (κ × Value)) (k : κ) : mGet (mDel m k) k = none := by
  induction m with
  | nil => rfl
  | cons p r ih =>
    unfold mDel at ih ⊢
    rw [List.filter_cons]
    split
    · rename_i h
      rw [mGet_cons, if_neg (by simpa using h)]; exact ih
    · exact ih
theorem mGet_del_other (m : List (κ × Value)) (k k' : κ) (hne : k' ≠ k) : mGet (mDel m k) k' = mGet m k' := by
  induction m with
  | nil => rfl
  | cons p r ih =>
    unfold mDel at ih ⊢
    rw [List.filter_cons]
    split
    · rw [mGet_cons, mGet_cons, ih]
    · rename_i h
      rw [mGet_cons, ih, if_neg]
      intro e
      have : p.1 = k := by simpa using h
      exact hne (e.symm.trans this)
theorem mGet_put_same (m : List (κ × Value)) (k : κ) (v : Value) : mGet (mPut K m k v) k = some v := mGet_ins_same _ _ _ (mGet_del_same m k)
theorem mGet_put_other (m : List (κ × Value)) (k k' : κ) (v : Value) (hne : k' ≠ k) : mGet (mPut K m k v) k' = mGet m k' := by
  unfold mPut; rw [mGet_ins_other _ _ _ _ hne, mGet_del_other _ _ _ hne]
theorem mIns_length (m : List (κ × Value)) (k : κ) (v : Value) : (mIns K k v m).length = m.length + 1 := by
  induction m with
  | nil => rfl
  | cons p r ih => unfold mIns; split <;> simp [ih]
theorem mDel_length_le (m : List (κ × Value)) (k : κ) : (mDel m k).length ≤ m.length := List.length_filter_le _ _
theorem mPut_length_le (m : List (κ × Value)) (k : κ) (v : Value) : (mPut K m k v).length ≤ m.length + 1 := by
  unfold mPut; rw [mIns_length]; have := mDel_length_le m k; omega
end
end Go.Proofs.Yteiniahikhiadaa

namespace Go.Proofs.Yteiniahikhiadaa
open Go.RowKit

theorem step_append_sl {P : Program} (w : World) {ops : Array Oper} {o : Oper} {a : Act} {K : Act → World → Prop} {Q : Exit → Act → World → Prop} {E : Prop} (hgd : o.guard = none) (s x : Operand) (t : TypeId)
    (ho : o.op = .call { callee := .builtin .append, args := #[s, x], argTypes := #[t, t] })
    (base : Nat) (e : TypeId) (i : TypeInfo) (z : Value) (size bytes : Nat) (ht : P.underlying t = some (.slice e)) (hi : P.info? e = some i) (hz : i.zero = some z)
    (hsize : i.size = size) (hby : i.bytes = bytes) (hzs : z.cells.size = size) (hsz : 0 < size)
    (v : Value) (n : Nat) (xs : List Value) (hs : a.eval s = v) (hown : w.ownsRow base e size v n xs)
    (lo B : Nat) (u : Value) (m : Nat) (ys : List Value) (hx : a.eval x = u) (hu : Sl w lo B size u m ys) (h1 : ∀ y ∈ ys, y.oneCell' = true)
    (h63 : n + m ≤ maxLen) (hbytes : (n + m) * bytes ≤ 140737488355328) (hbase : base ≤ w.heap.size)
    (h : ∀ v' w', w'.ownsRow base e size v' (n + m) (xs ++ ys) → w.grownBy w' v.ownBlock → (v'.ownBlock = v.ownBlock ∨ v'.ownBlock = some w.heap.size) → K (a.put o.dst v') w') :
    if Region.wanted o (yielded ops a.tmps) = true then Oper.wp P o a w K Q else E := by
  have hw : Region.wanted o (yielded ops a.tmps) = true := by simp [Region.wanted, hgd]
  rw [if_pos hw]
  obtain ⟨v', w', hrun, h2, h3, h4⟩ := run_append_sl (P := P) w base t o.type e i z size bytes ht hi hz hsize hby hzs hsz v n xs hown lo B u m ys hu h1 h63 hbytes hbase
  unfold Oper.wp execOp
  simp only [ho, resolve, invoke, builtin, Sem.run_bind, Sem.run_pure, Result.andThen_ok, List.map_toArray, List.map_cons, List.map_nil, hs, hx, hrun]
  exact h v' w' h2 h3 h4
theorem Sl.zero {w : World} {lo B size c : Nat} {A : Option Addr} (h : c ≤ maxLen) : Sl w lo B size (.slice A 0 c) 0 [] := ⟨by simp, _, _, rfl, Nat.zero_le _, h, fun h => by omega⟩
/-- a slice's first k elements -/
theorem Sl.upTo {w : World} {lo B size n k c : Nat} {A : Option Addr} {xs : List Value} (h : Sl w lo B size (.slice A n c) n xs) (hk : k ≤ n) : Sl w lo B size (.slice A k c) k (xs.take (k * size)) := by
  obtain ⟨A', c', e, h1, h2, h3⟩ := h.at_
  cases e
  have hl := h.len
  have hm : k * size ≤ n * size := Nat.mul_le_mul_right _ hk
  refine ⟨by rw [List.length_take]; omega, _, _, rfl, by omega, h2, fun hn => ?_⟩
  obtain ⟨b, o, e, h4, h5, h6⟩ := h3 (by omega)
  exact ⟨b, o, e, h4, h5, fun j hj => by rw [h6 j (by omega), List.getElem?_take, if_pos hj]⟩
/-- a slice from its element k on: at its very end the address stays -/
theorem Sl.onFrom {w : World} {lo B size n k c : Nat} {b o : Nat} {xs : List Value} (h : Sl w lo B size (.slice (some ⟨b, o, none⟩) n c) n xs) (hk : k ≤ n) :
    Sl w lo B size (.slice (if c = k then some ⟨b, o, none⟩ else some ⟨b, o + k * size, none⟩) (n - k) (c - k)) (n - k) (xs.drop (k * size)) := by
  obtain ⟨A', c', e, h1, h2, h3⟩ := h.at_
  cases e
  have hl := h.len
  have hm : (n - k) * size + k * size = n * size := by rw [← Nat.add_mul]; congr 1; omega
  refine ⟨by rw [List.length_drop]; omega, _, _, rfl, by omega, by omega, fun hn => ?_⟩
  obtain ⟨b', o', e, h4, h5, h6⟩ := h3 (by omega)
  cases e
  rw [if_neg (by omega)]
  exact ⟨_, _, rfl, h4, h5, fun j hj => by rw [Nat.add_assoc, h6 _ (by omega), List.getElem?_drop]⟩
end Go.Proofs.Yteiniahikhiadaa

namespace Go.Proofs.Yteiniahikhiadaa
open Go.RowKit
namespace Ce

/-- bytes in memory -/
def bytesV (l : List UInt8) : List Value := l.map fun c => Value.int .u8 (c.toNat : Int)
theorem bytesV_length (l : List UInt8) : (bytesV l).length = l.length := by simp [bytesV]
theorem bytesV_append (a b : List UInt8) : bytesV (a ++ b) = bytesV a ++ bytesV b := by simp [bytesV]
theorem bytesV_one (l : List UInt8) : ∀ y ∈ bytesV l, y.oneCell' = true := by
  intro y hy
  obtain ⟨x, _, rfl⟩ := List.mem_map.1 hy
  rfl
def BytesAt (w : World) (lo B : Nat) (v : Value) (l : List UInt8) : Prop := Sl w lo B 1 v l.length (bytesV l)
section
variable {w w' : World} {lo lo' B B' : Nat} {v : Value} {l : List UInt8}
theorem BytesAt.below (h : BytesAt w lo B v l) (hb : Below B w w') : BytesAt w' lo B v l := Sl.below h hb
theorem BytesAt.mono (h : BytesAt w lo B v l) (hb : Below B w w') (hB : B ≤ B') : BytesAt w' lo B' v l := Sl.mono h hb hB
theorem BytesAt.wide (h : BytesAt w lo B v l) (hl : lo' ≤ lo) (hB : B ≤ B') : BytesAt w lo' B' v l := Sl.wide h hl hB
theorem BytesAt.nil (w : World) (lo B : Nat) : BytesAt w lo B (.slice none 0 0) [] := Sl.nil w lo B 1
theorem BytesAt.form (h : BytesAt w lo B v l) : ∃ A c, v = .slice A l.length c ∧ l.length ≤ c ∧ c ≤ maxLen := by
  obtain ⟨A, c, e, h1, h2, _⟩ := h.at_
  exact ⟨A, c, e, h1, h2⟩
theorem BytesAt.cellAt {A : Option Addr} {n c j : Nat} (h : BytesAt w lo B (.slice A n c) l) (hj : j < l.length) :
    ∃ b o, A = some ⟨b, o, none⟩ ∧ lo ≤ b ∧ b < B ∧ w.cell? ⟨b, o + j, none⟩ = some (.int .u8 (l[j].toNat : Int)) := by
  obtain ⟨A', c', e, _, _, h3⟩ := h.at_
  cases e
  obtain ⟨b, o, e1, e2, e3, e4⟩ := h3 (by omega)
  refine ⟨b, o, e1, e2, e3, (e4 j (by omega)).trans ?_⟩
  simp [bytesV, hj]
theorem BytesAt.of_own {e : TypeId} {n : Nat} (h : w.ownsRow lo e 1 v n (bytesV l)) : BytesAt w lo w.heap.size v l := by
  have hn : n = l.length := by have := h.1; rw [bytesV_length] at this; omega
  subst hn
  exact Sl.of_own h
end
theorem byte_info : (Try.prog.info? 5).map (fun i => (i.zero, i.size, i.bytes)) = some (some (.int .u8 0), 1, 1) := by kernel_rfl

theorem byte_of {n : Int} {k : Nat} (h : n = k) (hk : k < 256) : Value.int .u8 n = .int .u8 ((UInt8.ofNat k).toNat : Int) := by
  rw [h, toNat_ofNat hk]
/-- how many bytes, from how many bits -/
theorem size_of {u : Int} {k : Nat} (h0 : 0 ≤ u) (h1 : u ≤ 18446744073709551615) (hk : k ≤ 64) (h2 : u < 2 ^ k) (h3 : k = 0 ∨ 2 ^ (k - 1) ≤ u) : (k + 7) / 8 = (dig u.toNat).length := by
  obtain ⟨n, rfl⟩ := Int.eq_ofNat_of_zero_le h0
  simp only [Int.toNat_natCast]
  have h2' : n < 2 ^ k := by exact_mod_cast h2
  have h3' : k = 0 ∨ 2 ^ (k - 1) ≤ n := by
    rcases h3 with h | h
    · exact .inl h
    · exact .inr (by exact_mod_cast h)
  refine Nat.le_antisymm ?_ ?_
  · have hg := dig_ge (u := n) (by omega)
    rcases h3' with rfl | h
    · simp
    · have hlt : 2 ^ (k - 1) < 2 ^ (8 * (dig n).length) := by
        rw [Nat.pow_mul]
        exact Nat.lt_of_le_of_lt h hg
      have := (Nat.pow_lt_pow_iff_right (a := 2) (by omega)).1 hlt
      omega
  · refine dig_len (by omega) ?_
    rw [show (256 : Nat) = 2 ^ 8 by rfl, ← Nat.pow_mul]
    exact Nat.lt_of_lt_of_le h2' (Nat.pow_le_pow_right (by omega) (by omega))

theorem flip_neg {n : Int} (h0 : -9223372036854775808 ≤ n) (h : n < 0) : bits .xor .u64 IntKind.u64.max (IntKind.u64.wrap n) = -1 - n := by
  have e1 : IntKind.u64.wrap n = (((n + 18446744073709551616).toNat : Nat) : Int) := by
    rw [IntKind.wrap_u64]
    omega
  have e2 : IntKind.u64.max = ((2 ^ 64 - 1 : Nat) : Int) := by decide
  rw [e1, e2, bits_xor_u64_nat _ _ (by decide) (by omega), Lib.xor_ones64 _ (by omega)]
  omega

theorem byte_shift {u : Int} {m : Nat} (h : 0 ≤ u) : u / 2 ^ (8 * m) % 256 = ((u.toNat / 256 ^ m % 256 : Nat) : Int) := by
  obtain ⟨x, rfl⟩ := Int.eq_ofNat_of_zero_le h
  simp only [Int.toNat_natCast]
  have h1 : ((2 : Nat) ^ (8 * m) : Nat) = 256 ^ m := by
    rw [Nat.pow_mul]
  have h2 : (2 : Int) ^ (8 * m) = ((2 ^ (8 * m) : Nat) : Int) := (Int.natCast_pow 2 (8 * m)).symm
  rw [h2, h1]
  generalize 256 ^ m = q
  omega
theorem BytesAt.clip {w : World} {lo B n c : Nat} {A : Option Addr} {l : List UInt8} (h : BytesAt w lo B (.slice A n c) l) : BytesAt w lo B (.slice A n n) l := by
  have h0 := h.len
  obtain ⟨A', c', e, h1, h2, h3⟩ := h.at_
  cases e
  exact ⟨h0, _, _, rfl, Nat.le_refl _, Nat.le_trans h1 h2, h3⟩
end Ce
end Go.Proofs.Yteiniahikhiadaa

namespace Go.Proofs.Yteiniahikhiadaa
open Go.RowKit Go.Maps
namespace Se
open Ce

/-- a sector's bytes -/
abbrev Blk := List UInt8
def blkV (b : Blk) : Value := .agg (bytesV b).toArray
def bGet (m : List (Int × Blk)) (k : Int) : Option Blk := (m.find? fun p => decide (p.1 = k)).map (·.2)
def bIns (k : Int) (b : Blk) : List (Int × Blk) → List (Int × Blk)
  | [] => [(k, b)]
  | p :: r => if k < p.1 then (k, b) :: p :: r else p :: bIns k b r
def bDel (m : List (Int × Blk)) (k : Int) : List (Int × Blk) := m.filter fun p => !decide (p.1 = k)
def bPut (m : List (Int × Blk)) (k : Int) (b : Blk) : List (Int × Blk) := bIns k b (bDel m k)
/-- as the program's map holds it -/
def bm (m : List (Int × Blk)) : List (Int × Value) := m.map fun p => (p.1, blkV p.2)
theorem bm_nil : bm [] = [] := rfl
theorem bm_get (m : List (Int × Blk)) (k : Int) : mGet (bm m) k = (bGet m k).map blkV := by
  induction m with
  | nil => rfl
  | cons p r ih =>
    simp only [mGet, bm, List.map_cons, List.find?_cons, bGet] at ih ⊢
    by_cases h : p.1 = k
    · simp [h]
    · simp only [h, decide_false]; exact ih
theorem bm_put (m : List (Int × Blk)) (k : Int) (b : Blk) : mPut intK (bm m) k (blkV b) = bm (bPut m k b) := by
  have h1 : mDel (bm m) k = bm (bDel m k) := by
    simp only [mDel, bm, bDel, List.filter_map]
    rfl
  unfold mPut bPut
  rw [h1]
  generalize bDel m k = d
  induction d with
  | nil => rfl
  | cons p r ih =>
    simp only [bm, List.map_cons, mIns, bIns] at ih ⊢
    have e : intK.lt k p.1 = decide (k < p.1) := rfl
    rw [e]
    by_cases h : k < p.1
    · simp [h]
    · simp only [h, decide_false, if_false, Bool.false_eq_true, List.map_cons]
      rw [ih]
theorem bGet_put (m : List (Int × Blk)) (k j : Int) (b : Blk) : bGet (bPut m k b) j = if j = k then some b else bGet m j := by
  unfold bPut
  have h0 : ∀ d : List (Int × Blk), (∀ p ∈ d, p.1 ≠ k) → bGet (bIns k b d) j = if j = k then some b else bGet d j := fun d hd => by
    induction d with
    | nil => by_cases h : j = k <;> simp [bGet, bIns, h, eq_comm]
    | cons p r ih =>
      have ih := ih fun q hq => hd q (List.mem_cons_of_mem _ hq)
      have hp := hd p (by simp)
      simp only [bIns]
      by_cases h : k < p.1
      · simp only [h, if_true, bGet, List.find?_cons]
        by_cases e : j = k
        · simp [e]
        · simp [e, Ne.symm e]
      · simp only [h, if_false, bGet, List.find?_cons] at ih ⊢
        by_cases e : p.1 = j
        · have : j ≠ k := fun e2 => hp (e.trans e2)
          simp [e, this]
        · simp only [e, decide_false]; exact ih
  rw [h0 _ (fun p hp => by unfold bDel at hp; rw [List.mem_filter] at hp; simpa using hp.2)]
  by_cases e : j = k
  · simp [e]
  · simp only [e, if_false]
    unfold bGet bDel
    rw [List.find?_filter]
    congr 2
    funext p
    by_cases h : p.1 = j
    · simp [h, e]
    · simp [h]
theorem bPut_mem {m : List (Int × Blk)} {k : Int} {b : Blk} {p : Int × Blk} (h : p ∈ bPut m k b) : p = (k, b) ∨ p ∈ m := by
  unfold bPut at h
  have h0 : ∀ d : List (Int × Blk), p ∈ bIns k b d → p = (k, b) ∨ p ∈ d := fun d => by
    induction d with
    | nil => simp [bIns]
    | cons q r ih =>
      simp only [bIns]
      split
      · simp
      · intro h
        rcases List.mem_cons.1 h with rfl | h
        · exact .inr (by simp)
        · rcases ih h with h | h
          · exact .inl h
          · exact .inr (List.mem_cons_of_mem _ h)
  rcases h0 _ h with h | h
  · exact .inl h
  · unfold bDel at h
    exact .inr (List.mem_filter.1 h).1
/-- a device -/
structure Dv where
  sure : List Blk
  dm : List (Int × Blk)
  stops : Bool
  left : Int
  wr : Int
  fl : Int
structure OkD (D : Dv) : Prop where
  sure : ∀ b ∈ D.sure, b.length = 64
  dm : ∀ p ∈ D.dm, 0 ≤ p.1 ∧ p.1 < D.sure.length ∧ p.2.length = 64
  left : -9223372036854775808 ≤ D.left ∧ D.left ≤ 9223372036854775807
  wr : -9223372036854775808 ≤ D.wr ∧ D.wr ≤ 9223372036854775807
  fl : -9223372036854775808 ≤ D.fl ∧ D.fl ≤ 9223372036854775807
def offD (D : Dv) : Bool := D.stops && decide (D.left ≤ 0)
def spendD (D : Dv) : Dv := if D.stops then { D with left := D.left - 1 } else D
def writeD (D : Dv) (i : Int) (b : Blk) : Dv × Int :=
  if i < 0 ∨ (D.sure.length : Int) ≤ i ∨ b.length ≠ 64 then (D, 1) else if offD D then (D, 30) else ({ spendD D with dm := bPut D.dm i b, wr := wrap64 (D.wr + 1) }, 0)
/-- what a sector reads as -/
def lastD (D : Dv) (i : Nat) : Blk := (bGet D.dm i).getD (D.sure.getD i [])
def flushD (D : Dv) : Dv × Int := if offD D then (D, 30) else ({ spendD D with sure := (List.range D.sure.length).map (lastD D), dm := [], fl := wrap64 (D.fl + 1) }, 0)
def stopD (D : Dv) (n : Int) : Dv := { D with stops := decide (0 ≤ n), left := n }
/-- a sector behind a crash -/
def crashB (D : Dv) (keep : List Int) (torn : Int) (n : Nat) (i : Nat) : Blk := match bGet D.dm i with
  | none => D.sure.getD i []
  | some b => if (i : Int) ∈ keep then b else if (i : Int) = torn then b.take n ++ (D.sure.getD i []).drop n else D.sure.getD i []
def crashD (D : Dv) (keep : List Int) (torn bytes : Int) : Dv × Int :=
  if bytes < 0 ∨ 64 < bytes then (D, 1) else ({ D with sure := (List.range D.sure.length).map (crashB D keep torn bytes.toNat), dm := [], stops := false }, 0)
end Se
end Go.Proofs.Yteiniahikhiadaa

namespace Go.Proofs.Yteiniahikhiadaa
open Go.RowKit Go.Maps
namespace Se
open Ce

theorem bGet_mem {m : List (Int × Blk)} {k : Int} {b : Blk} (h : bGet m k = some b) : (k, b) ∈ m := by
  unfold bGet at h
  obtain ⟨p, hp, rfl⟩ := Option.map_eq_some_iff.1 h
  have h1 := List.find?_some hp
  have h2 := List.mem_of_find?_eq_some hp
  simp only [decide_eq_true_eq] at h1
  subst h1
  exact h2
def newD (n : Nat) : Dv := ⟨List.replicate n (List.replicate 64 0), [], false, 0, 0, 0⟩
theorem OkD.new (n : Nat) : OkD (newD n) := by
  refine ⟨fun b hb => ?_, (fun p hp => by simp [newD] at hp), by simp [newD], by simp [newD], by simp [newD]⟩
  rw [(List.mem_replicate.1 hb).2]
  simp
theorem sure_len {D : Dv} (h : OkD D) {i : Nat} (hi : i < D.sure.length) : (D.sure.getD i []).length = 64 := by
  rw [List.getD_eq_getElem?_getD, List.getElem?_eq_getElem hi]
  exact h.sure _ (List.getElem_mem hi)
theorem lastD_len {D : Dv} (h : OkD D) {i : Nat} (hi : i < D.sure.length) : (lastD D i).length = 64 := by
  unfold lastD
  cases hg : bGet D.dm i with
  | none => exact sure_len h hi
  | some b => exact (h.dm _ (bGet_mem hg)).2.2
theorem crashB_len {D : Dv} (h : OkD D) {keep : List Int} {torn : Int} {n : Nat} (hn : n ≤ 64) {i : Nat} (hi : i < D.sure.length) : (crashB D keep torn n i).length = 64 := by
  have hs := sure_len h hi
  unfold crashB
  cases hg : bGet D.dm i with
  | none => exact hs
  | some b =>
    have hb := (h.dm _ (bGet_mem hg)).2.2
    dsimp only at hb ⊢
    split
    · exact hb
    · split
      · rw [List.length_append, List.length_take, List.length_drop]
        omega
      · exact hs
theorem spendD_left {D : Dv} (h : OkD D) (ho : offD D = false) : -9223372036854775808 ≤ (spendD D).left ∧ (spendD D).left ≤ 9223372036854775807 := by
  have := h.left
  unfold offD at ho
  unfold spendD
  split
  · rename_i hs
    rw [hs] at ho
    simp at ho
    dsimp only
    omega
  · exact this
theorem spendD_sure (D : Dv) : (spendD D).sure = D.sure := by unfold spendD; split <;> rfl
theorem spendD_dm (D : Dv) : (spendD D).dm = D.dm := by unfold spendD; split <;> rfl
theorem spendD_stops (D : Dv) : (spendD D).stops = D.stops := by unfold spendD; split <;> rfl
theorem spendD_wr (D : Dv) : (spendD D).wr = D.wr := by unfold spendD; split <;> rfl
theorem spendD_fl (D : Dv) : (spendD D).fl = D.fl := by unfold spendD; split <;> rfl
theorem wrap64_bd (x : Int) : -9223372036854775808 ≤ wrap64 x ∧ wrap64 x ≤ 9223372036854775807 := by unfold wrap64; omega
theorem OkD.write {D : Dv} (h : OkD D) (i : Int) (b : Blk) : OkD (writeD D i b).1 := by
  unfold writeD
  split
  · exact h
  · rename_i hc
    split
    · exact h
    · rename_i ho
      have ho : offD D = false := by simpa using ho
      refine ⟨by dsimp only; rw [spendD_sure]; exact h.sure, fun p hp => ?_, spendD_left h ho, wrap64_bd _, by dsimp only; rw [spendD_fl]; exact h.fl⟩
      dsimp only at hp ⊢
      rw [spendD_sure]
      rcases bPut_mem hp with rfl | hp
      · dsimp only
        omega
      · exact h.dm p hp
theorem OkD.flush {D : Dv} (h : OkD D) : OkD (flushD D).1 := by
  unfold flushD
  split
  · exact h
  · rename_i ho
    have ho : offD D = false := by simpa using ho
    refine ⟨fun b hb => ?_, (fun p hp => by cases hp), spendD_left h ho, by dsimp only; rw [spendD_wr]; exact h.wr, wrap64_bd _⟩
    dsimp only at hb
    obtain ⟨i, hi, rfl⟩ := List.mem_map.1 hb
    exact lastD_len h (List.mem_range.1 hi)
theorem OkD.stop {D : Dv} (h : OkD D) {n : Int} (h0 : -9223372036854775808 ≤ n) (h1 : n ≤ 9223372036854775807) : OkD (stopD D n) := ⟨h.sure, h.dm, ⟨h0, h1⟩, h.wr, h.fl⟩
theorem OkD.crash {D : Dv} (h : OkD D) (keep : List Int) (torn bytes : Int) : OkD (crashD D keep torn bytes).1 := by
  unfold crashD
  split
  · exact h
  · rename_i hc
    refine ⟨fun b hb => ?_, (fun p hp => by cases hp), h.left, h.wr, h.fl⟩
    dsimp only at hb
    obtain ⟨i, hi, rfl⟩ := List.mem_map.1 hb
    exact crashB_len h (by omega) (List.mem_range.1 hi)
end Se
end Go.Proofs.Yteiniahikhiadaa

namespace Go.Proofs.Yteiniahikhiadaa
open Go.RowKit Go.Maps
namespace Se
open Ce
structure Rv where
  sure : List Blk
  last : List Blk
  dirty : List Bool
  stops : Bool
  left : Int
  wr : Int
  fl : Int
structure OkR (R : Rv) : Prop where
  sure : ∀ b ∈ R.sure, b.length = 64
  last : ∀ b ∈ R.last, b.length = 64
  ll : R.last.length = R.sure.length
  dl : R.dirty.length = R.sure.length
  left : -9223372036854775808 ≤ R.left ∧ R.left ≤ 9223372036854775807
  wr : -9223372036854775808 ≤ R.wr ∧ R.wr ≤ 9223372036854775807
  fl : -9223372036854775808 ≤ R.fl ∧ R.fl ≤ 9223372036854775807
def newR (n : Nat) : Rv := ⟨List.replicate n (List.replicate 64 0), List.replicate n (List.replicate 64 0), List.replicate n false, false, 0, 0, 0⟩
theorem OkR.new (n : Nat) : OkR (newR n) := by
  refine ⟨fun b hb => ?_, fun b hb => ?_, by simp [newR], by simp [newR], by simp [newR], by simp [newR], by simp [newR]⟩ <;>
  · rw [(List.mem_replicate.1 hb).2]
    simp
def offR (R : Rv) : Bool := R.stops && decide (R.left ≤ 0)
def writeR (R : Rv) (i : Int) (b : Blk) : Rv × Int :=
  if i < 0 ∨ (R.sure.length : Int) ≤ i ∨ b.length ≠ 64 then (R, 1) else if offR R then (R, 30) else
    ({ R with left := wrap64 (R.left - 1), last := R.last.set i.toNat b, dirty := R.dirty.set i.toNat true, wr := wrap64 (R.wr + 1) }, 0)
def flushR (R : Rv) : Rv × Int := if offR R then (R, 30) else
  ({ R with left := wrap64 (R.left - 1), sure := R.last, dirty := List.replicate R.sure.length false, fl := wrap64 (R.fl + 1) }, 0)
def stopR (R : Rv) (n : Int) : Rv := { R with stops := decide (0 ≤ n), left := n }
def crashRB (R : Rv) (keep : List Int) (torn : Int) (n : Nat) (i : Nat) : Blk :=
  if R.dirty.getD i false then (if (i : Int) ∈ keep then R.last.getD i [] else if (i : Int) = torn then (R.last.getD i []).take n ++ (R.sure.getD i []).drop n else R.sure.getD i []) else R.sure.getD i []
def crashR (R : Rv) (keep : List Int) (torn bytes : Int) : Rv × Int :=
  if bytes < 0 ∨ 64 < bytes then (R, 1) else
    ({ R with sure := (List.range R.sure.length).map (crashRB R keep torn bytes.toNat), last := (List.range R.sure.length).map (crashRB R keep torn bytes.toNat), dirty := List.replicate R.sure.length false, stops := false }, 0)
/-- they go along -/
structure Along (D : Dv) (R : Rv) : Prop where
  sure : R.sure = D.sure
  last : R.last = (List.range D.sure.length).map (lastD D)
  dirty : R.dirty = (List.range D.sure.length).map fun (i : Nat) => (bGet D.dm (i : Int)).isSome
  stops : R.stops = D.stops
  left : D.stops = true → R.left = D.left
  wr : R.wr = D.wr
  fl : R.fl = D.fl
theorem rep_map {α : Type} (x : α) (n : Nat) : List.replicate n x = (List.range n).map fun _ => x := by
  apply List.ext_getElem <;> simp
theorem getD_range {α : Type} (f : Nat → α) (n i : Nat) (hi : i < n) (z : α) : ((List.range n).map f).getD i z = f i := by
  rw [List.getD_eq_getElem?_getD, List.getElem?_map, List.getElem?_range hi]
  rfl
theorem Along.new (n : Nat) : Along (newD n) (newR n) := by
  refine ⟨rfl, ?_, ?_, rfl, (fun h => by cases h), rfl, rfl⟩
  · apply List.ext_getElem
    · simp [newR, newD]
    · intro i h1 h2
      simp only [newR, newD, List.length_replicate, List.getElem_replicate, List.getElem_map, List.getElem_range] at h1 h2 ⊢
      simp only [lastD, bGet, List.find?_nil, Option.map_none, Option.getD_none]
      rw [List.getD_eq_getElem?_getD, List.getElem?_replicate, if_pos h1]
      rfl
  · apply List.ext_getElem <;> simp [newR, newD, bGet]
theorem Along.off {D : Dv} {R : Rv} (h : Along D R) : offR R = offD D := by
  unfold offR offD
  rw [h.stops]
  cases hs : D.stops with
  | false => rfl
  | true => rw [h.left hs]
theorem set_map {α : Type} (f g : Nat → α) (n k : Nat) (x : α) (h : ∀ i, i < n → g i = if i = k then x else f i) : ((List.range n).map f).set k x = (List.range n).map g := by
  apply List.ext_getElem
  · simp
  · intro i h1 h2
    have hi : i < n := by simpa using h2
    rw [List.getElem_set]
    simp only [List.getElem_map, List.getElem_range, h i hi]
    by_cases e : k = i
    · simp [e]
    · rw [if_neg e, if_neg (Ne.symm e)]
theorem spend_left {D : Dv} {R : Rv} (h : Along D R) (hok : OkD D) (ho : offD D = false) : D.stops = true → wrap64 (R.left - 1) = (spendD D).left := by
  intro hs
  have hl := hok.left
  have hp : 0 < D.left := by unfold offD at ho; rw [hs] at ho; simpa using ho
  rw [h.left hs]
  unfold spendD
  rw [hs]
  simp only [if_true]
  unfold wrap64
  omega
theorem Along.write {D : Dv} {R : Rv} (h : Along D R) (hok : OkD D) (i : Int) (b : Blk) : (writeR R i b).2 = (writeD D i b).2 ∧ Along (writeD D i b).1 (writeR R i b).1 := by
  have hs : R.sure.length = D.sure.length := by rw [h.sure]
  unfold writeR writeD
  rw [hs, h.off]
  by_cases hc : i < 0 ∨ (D.sure.length : Int) ≤ i ∨ b.length ≠ 64
  · rw [if_pos hc, if_pos hc]
    exact ⟨rfl, h⟩
  · rw [if_neg hc, if_neg hc]
    cases ho : offD D with
    | true => exact ⟨rfl, h⟩
    | false =>
      simp only [Bool.false_eq_true, if_false]
      refine ⟨trivial, ?_⟩
      obtain ⟨k, rfl⟩ := Int.eq_ofNat_of_zero_le (show 0 ≤ i by omega)
      have hk : ∀ j : Nat, ((j : Int) = (k : Int)) = (j = k) := fun j => by apply propext; omega
      refine ⟨?_, ?_, ?_, ?_, ?_, ?_, ?_⟩
      · dsimp only; rw [spendD_sure]; exact h.sure
      · dsimp only
        rw [spendD_sure, h.last]
        refine set_map _ _ _ _ _ fun j hj => ?_
        unfold lastD
        dsimp only
        rw [bGet_put]
        try rw [spendD_sure]
        simp only [hk, Int.toNat_natCast]
        by_cases e : j = k <;> simp [e]
      · dsimp only
        rw [spendD_sure, h.dirty]
        refine set_map _ _ _ _ _ fun j hj => ?_
        rw [bGet_put]
        simp only [hk, Int.toNat_natCast]
        by_cases e : j = k <;> simp [e]
      · dsimp only; rw [spendD_stops]; exact h.stops
      · dsimp only
        rw [spendD_stops]
        exact spend_left h hok ho
      · dsimp only; rw [h.wr]
      · dsimp only; rw [spendD_fl]; exact h.fl
theorem Along.flush {D : Dv} {R : Rv} (h : Along D R) (hok : OkD D) : (flushR R).2 = (flushD D).2 ∧ Along (flushD D).1 (flushR R).1 := by
  unfold flushR flushD
  rw [h.off]
  cases ho : offD D with
  | true => exact ⟨rfl, h⟩
  | false =>
    simp only [Bool.false_eq_true, if_false]
    refine ⟨trivial, ?_⟩
    refine ⟨h.last, ?_, ?_, ?_, ?_, ?_, ?_⟩
    · dsimp only
      rw [h.last, List.length_map, List.length_range]
      apply List.map_congr_left
      intro i hi
      have hi := List.mem_range.1 hi
      show _ = (((bGet [] (i : Int)).getD _) : Blk)
      simp only [bGet, List.find?_nil, Option.map_none, Option.getD_none]
      exact (getD_range _ _ _ hi _).symm
    · dsimp only
      rw [h.sure, rep_map, List.length_map, List.length_range]
      rfl
    · dsimp only; rw [spendD_stops]; exact h.stops
    · dsimp only
      rw [spendD_stops]
      exact spend_left h hok ho
    · dsimp only; rw [spendD_wr]; exact h.wr
    · dsimp only; rw [h.fl]
theorem Along.stop {D : Dv} {R : Rv} (h : Along D R) (n : Int) : Along (stopD D n) (stopR R n) := ⟨h.sure, h.last, h.dirty, rfl, fun _ => rfl, h.wr, h.fl⟩
theorem Along.crash {D : Dv} {R : Rv} (h : Along D R) (keep : List Int) (torn n : Int) : (crashR R keep torn n).2 = (crashD D keep torn n).2 ∧ Along (crashD D keep torn n).1 (crashR R keep torn n).1 := by
  unfold crashR crashD
  by_cases hc : n < 0 ∨ 64 < n
  · rw [if_pos hc, if_pos hc]
    exact ⟨rfl, h⟩
  · rw [if_neg hc, if_neg hc]
    refine ⟨rfl, ?_⟩
    have e : ∀ i, i < D.sure.length → crashRB R keep torn n.toNat i = crashB D keep torn n.toNat i := fun i hi => by
      unfold crashRB crashB
      rw [h.dirty, h.last, h.sure, getD_range _ _ _ hi, getD_range _ _ _ hi]
      unfold lastD
      cases hg : bGet D.dm (i : Int) with
      | none => simp
      | some b => simp
    have em : (List.range R.sure.length).map (crashRB R keep torn n.toNat) = (List.range D.sure.length).map (crashB D keep torn n.toNat) := by
      rw [h.sure]
      exact List.map_congr_left fun i hi => e i (List.mem_range.1 hi)
    refine ⟨em, ?_, ?_, rfl, (fun h => by cases h), h.wr, h.fl⟩
    · dsimp only
      rw [em, List.length_map, List.length_range]
      apply List.map_congr_left
      intro i hi
      have hi := List.mem_range.1 hi
      show _ = (((bGet [] (i : Int)).getD _) : Blk)
      simp only [bGet, List.find?_nil, Option.map_none, Option.getD_none]
      exact (getD_range _ _ _ hi _).symm
    · dsimp only
      rw [h.sure, rep_map, List.length_map, List.length_range]
      rfl
theorem set_mem {bs : List Blk} (h : ∀ b ∈ bs, b.length = 64) {c : Blk} (hc : c.length = 64) (i : Nat) : ∀ b ∈ bs.set i c, b.length = 64 := fun b hb => by
  rcases List.mem_or_eq_of_mem_set hb with h1 | h1
  · exact h b h1
  · rw [h1]; exact hc
theorem last_len {R : Rv} (h : OkR R) {i : Nat} (hi : i < R.sure.length) : (R.last.getD i []).length = 64 := by
  rw [List.getD_eq_getElem?_getD, List.getElem?_eq_getElem (by rw [h.ll]; exact hi)]
  exact h.last _ (List.getElem_mem _)
theorem surer_len {R : Rv} (h : OkR R) {i : Nat} (hi : i < R.sure.length) : (R.sure.getD i []).length = 64 := by
  rw [List.getD_eq_getElem?_getD, List.getElem?_eq_getElem hi]
  exact h.sure _ (List.getElem_mem _)
theorem crashRB_len {R : Rv} (h : OkR R) (keep : List Int) (torn : Int) {n : Nat} (hn : n ≤ 64) {i : Nat} (hi : i < R.sure.length) : (crashRB R keep torn n i).length = 64 := by
  have h1 := last_len h hi
  have h2 := surer_len h hi
  unfold crashRB
  split
  · split
    · exact h1
    · split
      · rw [List.length_append, List.length_take, List.length_drop]
        omega
      · exact h2
  · exact h2
end Se
end Go.Proofs.Yteiniahikhiadaa

namespace Go.Proofs.Yteiniahikhiadaa
open Go.RowKit Go.Maps
namespace Wa
open Ce Se
/-- an entry's top: its length -/
def tb3 (n : Nat) : List UInt8 := [UInt8.ofNat (n / 65536), UInt8.ofNat (n / 256), UInt8.ofNat n]
def encE (b : List UInt8) : List UInt8 := tb3 b.length ++ b
/-- the stream of entries -/
def strm (L : List (List UInt8)) : List UInt8 := L.flatMap encE
theorem strm_nil : strm [] = [] := rfl
theorem strm_cons (b : List UInt8) (L : List (List UInt8)) : strm (b :: L) = encE b ++ strm L := rfl
theorem strm_snoc (L : List (List UInt8)) (b : List UInt8) : strm (L ++ [b]) = strm L ++ encE b := by simp [strm]
theorem encE_len (b : List UInt8) : (encE b).length = 3 + b.length := by simp [encE, tb3]; omega
theorem be_tb3 {n : Nat} (h : n < 16777216) : be (tb3 n) = n := by
  simp [be, tb3]
  omega
/-- a sector that holds a part of a stream -/
def blkOf (p : List UInt8) : Blk := p ++ List.replicate (63 - p.length) 0 ++ [UInt8.ofNat p.length]
theorem blkOf_len {p : List UInt8} (h : p.length ≤ 63) : (blkOf p).length = 64 := by simp [blkOf]; omega
theorem blkOf_nil : blkOf [] = List.replicate 64 0 := by decide
theorem blkOf_used {p : List UInt8} (h : p.length ≤ 63) : ((blkOf p).getD 63 0).toNat = p.length := by
  unfold blkOf
  rw [List.getD_eq_getElem?_getD, List.getElem?_append_right (by simp; omega)]
  simp only [List.length_append, List.length_replicate]
  rw [show 63 - (p.length + (63 - p.length)) = 0 by omega]
  simp
  omega
theorem blkOf_take {p : List UInt8} : (blkOf p).take p.length = p := by
  unfold blkOf
  rw [List.append_assoc, List.take_append_of_le_length (Nat.le_refl _), List.take_length]
/-- how many sectors a stream takes -/
def nch (l : List UInt8) : Nat := (l.length + 62) / 63
/-- the part of a stream in its sector i -/
def chF (l : List UInt8) (i : Nat) : Blk := blkOf ((l.drop (63 * i)).take 63)
theorem chF_len (l : List UInt8) (i : Nat) : (chF l i).length = 64 := blkOf_len (by rw [List.length_take]; omega)
theorem chF_far {l : List UInt8} {i : Nat} (h : nch l ≤ i) : chF l i = List.replicate 64 0 := by
  unfold nch at h
  unfold chF
  rw [List.drop_eq_nil_of_le (by omega), List.take_nil, blkOf_nil]
/-- what sectors hold of a stream -/
def strmOf : List Blk → List UInt8
  | [] => []
  | b :: r => if (b.getD 63 0).toNat ≤ 63 then b.take (b.getD 63 0).toNat ++ (if (b.getD 63 0).toNat = 63 then strmOf r else []) else []
theorem strmOf_chs : ∀ (n : Nat) (l : List UInt8), l.length ≤ 63 * n → strmOf ((List.range n).map (chF l)) = l
  | 0, l, h => by
    obtain rfl := List.eq_nil_of_length_eq_zero (show l.length = 0 by omega)
    rfl
  | n + 1, l, h => by
    have e : (List.range (n + 1)).map (chF l) = chF l 0 :: (List.range n).map (chF (l.drop 63)) := by
      rw [List.range_succ_eq_map, List.map_cons, List.map_map]
      congr 1
      apply List.map_congr_left
      intro i _
      simp only [Function.comp, chF, List.drop_drop]
      rw [show 63 * Nat.succ i = 63 + 63 * i by omega]
    have e0 : chF l 0 = blkOf (l.take 63) := by simp [chF]
    have hl : (l.take 63).length ≤ 63 := by rw [List.length_take]; omega
    rw [e, e0]
    simp only [strmOf]
    rw [blkOf_used hl, if_pos hl, blkOf_take, strmOf_chs n _ (by rw [List.length_drop]; omega)]
    split
    · exact List.take_append_drop 63 l
    · rename_i h2
      rw [List.length_take] at h2
      rw [List.append_nil, List.take_of_length_le (by omega)]
theorem strmOf_len : ∀ (l : List Blk), (strmOf l).length ≤ 63 * l.length
  | [] => by simp [strmOf]
  | b :: r => by
    have ih := strmOf_len r
    simp only [strmOf, List.length_cons]
    split
    · rw [List.length_append, List.length_take]
      split
      · omega
      · rw [List.length_nil]; omega
    · rw [List.length_nil]; omega
/-- the entries of a stream -/
def entP (b : List UInt8) : List (List UInt8) :=
  if _h : b.length < 3 then [] else if be (b.take 3) > 65536 ∨ be (b.take 3) > (b.drop 3).length then [] else (b.drop 3).take (be (b.take 3)) :: entP ((b.drop 3).drop (be (b.take 3)))
termination_by b.length
decreasing_by simp only [List.length_drop]; omega
theorem entP_short {b : List UInt8} (h : b.length < 3) : entP b = [] := by rw [entP, dif_pos h]
theorem entP_bad {b : List UInt8} (h : ¬ b.length < 3) (h2 : be (b.take 3) > 65536 ∨ be (b.take 3) > (b.drop 3).length) : entP b = [] := by rw [entP, dif_neg h, if_pos h2]
theorem entP_more {b : List UInt8} (h : ¬ b.length < 3) (h2 : ¬ (be (b.take 3) > 65536 ∨ be (b.take 3) > (b.drop 3).length)) : entP b = (b.drop 3).take (be (b.take 3)) :: entP ((b.drop 3).drop (be (b.take 3))) := by rw [entP, dif_neg h, if_neg h2]
theorem entP_strm : ∀ {L : List (List UInt8)}, (∀ e ∈ L, e.length ≤ 65536) → entP (strm L) = L
  | [], _ => entP_short (by simp [strm])
  | e :: L, h => by
    have he := h e (by simp)
    have e1 : (strm (e :: L)).take 3 = tb3 e.length := by
      rw [strm_cons, encE, List.append_assoc]
      exact List.take_left' rfl
    have e2 : (strm (e :: L)).drop 3 = e ++ strm L := by
      rw [strm_cons, encE, List.append_assoc]
      exact List.drop_left' rfl
    have hn : ¬ (strm (e :: L)).length < 3 := by rw [strm_cons, List.length_append, encE_len]; omega
    have h2 : ¬ (be ((strm (e :: L)).take 3) > 65536 ∨ be ((strm (e :: L)).take 3) > ((strm (e :: L)).drop 3).length) := by
      rw [e1, e2, be_tb3 (by omega), List.length_append]
      omega
    rw [entP_more hn h2, e1, e2, be_tb3 (by omega), List.take_left' rfl, List.drop_left' rfl, entP_strm fun x hx => h x (List.mem_cons_of_mem _ hx)]
theorem entP_fits : ∀ (k : Nat) (b : List UInt8), b.length ≤ k → (strm (entP b)).length ≤ b.length ∧ ∀ e ∈ entP b, e.length ≤ 65536
  | k, b, hk => by
    by_cases h : b.length < 3
    · rw [entP_short h]
      simp [strm]
    · by_cases h2 : be (b.take 3) > 65536 ∨ be (b.take 3) > (b.drop 3).length
      · rw [entP_bad h h2]
        simp [strm]
      · rw [entP_more h h2, strm_cons]
        have hl : (b.drop 3).length = b.length - 3 := List.length_drop
        cases k with
        | zero => omega
        | succ k =>
          obtain ⟨i1, i2⟩ := entP_fits k ((b.drop 3).drop (be (b.take 3))) (by rw [List.length_drop]; omega)
          rw [List.length_drop] at i1
          refine ⟨?_, fun e he => ?_⟩
          · rw [List.length_append, encE_len, List.length_take]
            omega
          · rcases List.mem_cons.1 he with rfl | he
            · rw [List.length_take]; omega
            · exact i2 e he
/-- a number's eight bytes -/
def be8 (g : Int) : List UInt8 := (List.range 8).map fun i => UInt8.ofNat ((g % 18446744073709551616).toNat / 256 ^ (7 - i) % 256)
def h32 (g : Int) (half : Nat) : List UInt8 := be8 g ++ (UInt8.ofNat half :: List.replicate 23 0)
/-- a head -/
def headB (g : Int) (half : Nat) : Blk := h32 g half ++ h32 g half
theorem be8_len (g : Int) : (be8 g).length = 8 := by simp [be8]
theorem h32_len (g : Int) (half : Nat) : (h32 g half).length = 32 := by simp [h32, be8_len]
theorem headB_len (g : Int) (half : Nat) : (headB g half).length = 64 := by simp [headB, h32_len]
/-- what a sector says as a head -/
def isHd (b : Blk) (i : Nat) : Int × Nat :=
  if toI (be (b.take 8)) < 1 ∨ toI (be (b.take 8)) % 2 ≠ i ∨ (b.getD 8 0).toNat > 1 ∨ headB (toI (be (b.take 8))) (b.getD 8 0).toNat ≠ b then (0, 0) else (toI (be (b.take 8)), (b.getD 8 0).toNat)
theorem be_digits : ∀ (k n : Nat), be ((List.range k).map fun i => UInt8.ofNat (n / 256 ^ (k - 1 - i) % 256)) = n % 256 ^ k
  | 0, n => by simp [be, Nat.mod_one]
  | k + 1, n => by
    have e : (List.range (k + 1)).map (fun i => UInt8.ofNat (n / 256 ^ (k + 1 - 1 - i) % 256)) = (List.range k).map (fun i => UInt8.ofNat (n / 256 / 256 ^ (k - 1 - i) % 256)) ++ [UInt8.ofNat (n % 256)] := by
      rw [List.range_succ, List.map_append, List.map_singleton]
      congr 1
      · apply List.map_congr_left
        intro i hi
        rw [List.mem_range] at hi
        rw [Nat.div_div_eq_div_mul, ← Nat.pow_succ', show k + 1 - 1 - i = (k - 1 - i).succ by omega]
      · simp
    rw [e, be_snoc, be_digits k (n / 256), Nat.pow_succ, show (UInt8.ofNat (n % 256)).toNat = n % 256 by simp]
    rw [Nat.mul_comm (256 ^ k) 256, Nat.mod_mul]
    omega
theorem be_be8 {g : Int} (h0 : 0 ≤ g) (h1 : g < 9223372036854775808) : be (be8 g) = g.toNat := by
  unfold be8
  rw [Int.emod_eq_of_lt h0 (by omega)]
  have := be_digits 8 g.toNat
  rw [show (8 - 1 : Nat) = 7 from rfl] at this
  rw [this]
  exact Nat.mod_eq_of_lt (by omega)
theorem headB_take (g : Int) (half : Nat) : (headB g half).take 8 = be8 g := by
  unfold headB h32
  rw [List.append_assoc]
  exact List.take_left' (be8_len g)
theorem headB_half {g : Int} {half : Nat} (h : half ≤ 1) : ((headB g half).getD 8 0).toNat = half := by
  have hl := be8_len g
  unfold headB h32
  rw [List.getD_eq_getElem?_getD, List.append_assoc, List.getElem?_append_right (by omega), hl]
  simp
  omega
theorem isHd_head {g : Int} {half i : Nat} (h0 : 1 ≤ g) (h1 : g < 9223372036854775808) (hi : g % 2 = i) (hh : half ≤ 1) : isHd (headB g half) i = (g, half) := by
  have e1 : toI (be ((headB g half).take 8)) = g := by
    rw [headB_take, be_be8 (by omega) h1]
    unfold toI
    rw [if_pos (by omega)]
    omega
  unfold isHd
  rw [e1, headB_half hh, if_neg]
  rintro (h | h | h | h)
  · omega
  · exact h hi
  · omega
  · exact h rfl
theorem isHd_zero (i : Nat) : isHd (List.replicate 64 0) i = (0, 0) := by
  unfold isHd
  rw [if_pos]
  left
  decide
theorem toI_bd {u : Nat} (h : u < 18446744073709551616) : -9223372036854775808 ≤ toI u ∧ toI u < 9223372036854775808 := by unfold toI; split <;> omega
theorem isHd_bd (b : Blk) (i : Nat) : 0 ≤ (isHd b i).1 ∧ (isHd b i).2 ≤ 1 := by
  unfold isHd
  split
  · simp
  · rename_i h
    simp only [not_or] at h
    dsimp only
    omega
end Wa
end Go.Proofs.Yteiniahikhiadaa

namespace Go.Proofs.Yteiniahikhiadaa
open Go.RowKit Go.Maps
namespace Wa
open Ce Se
section
variable {σ : Type}
/-- sectors written one behind the other, till one is refused -/
def wrG (wr : σ → Int → Blk → σ × Int) (D : σ) (k : Int) (f : Nat → Blk) : Nat → σ × Int
  | 0 => (D, 0)
  | j + 1 => if (wrG wr D k f j).2 = 0 then wr (wrG wr D k f j).1 (k + j) (f j) else wrG wr D k f j
theorem wrG_bad {wr : σ → Int → Blk → σ × Int} {D : σ} {k : Int} {f : Nat → Blk} {j : Nat} (h : (wrG wr D k f j).2 ≠ 0) : ∀ n, j ≤ n → wrG wr D k f n = wrG wr D k f j
  | 0, hn => by obtain rfl : j = 0 := by omega
                rfl
  | n + 1, hn => by
    by_cases e : j = n + 1
    · rw [e]
    · have ih := wrG_bad h n (by omega)
      simp only [wrG]
      rw [ih, if_neg h]
/-- a log but for its device -/
structure Lg where
  g : Int
  half : Nat
  es : List (List UInt8)
  sure : Nat
  fin : Bool
def base (half size : Nat) : Int := 2 + half * size
/-- entries put down anew -/
def anewG (wr : σ → Int → Blk → σ × Int) (fl : σ → σ × Int) (D : σ) (g : Int) (half size : Nat) (es : List (List UInt8)) : σ × Int :=
  let r1 := wrG wr D (base (1 - half) size) (chF (strm es)) (nch (strm es))
  if r1.2 ≠ 0 then r1 else
  let r2 := wrG wr r1.1 (base (1 - half) size + nch (strm es)) (fun _ => List.replicate 64 0) (size - nch (strm es))
  if r2.2 ≠ 0 then r2 else
  let r3 := fl r2.1
  if r3.2 ≠ 0 then r3 else
  let r4 := wr r3.1 ((wrap64 (g + 1)).tmod 2) (headB (wrap64 (g + 1)) (1 - half))
  if r4.2 ≠ 0 then r4 else fl r4.1
/-- what becomes of a log by it -/
def anewL (L : Lg) (es : List (List UInt8)) (e : Int) : Lg := if e = 0 then ⟨wrap64 (L.g + 1), 1 - L.half, es, es.length, false⟩ else { L with fin := true }
def used (L : Lg) : Nat := (strm L.es).length
def roomL (L : Lg) (size : Nat) : Int := 63 * size - used L
/-- what an append writes -/
def appG (wr : σ → Int → Blk → σ × Int) (D : σ) (L : Lg) (size : Nat) (b : List UInt8) : σ × Int :=
  wrG wr D (base L.half size + (used L / 63 : Nat)) (fun j => chF (strm (L.es ++ [b])) (used L / 63 + j)) (nch (strm (L.es ++ [b])) - used L / 63)
/-- Append: the device, the log, the entry's number, the error -/
def appendG (wr : σ → Int → Blk → σ × Int) (D : σ) (L : Lg) (size : Nat) (b : List UInt8) : σ × Lg × Int × Int :=
  if b.length > 65536 then (D, L, 0, 3) else if (b.length : Int) + 3 > roomL L size then (D, L, 0, 2) else if L.fin then (D, L, 0, 30) else
  let r := appG wr D L size b
  if r.2 ≠ 0 then (r.1, { L with fin := true }, 0, r.2) else (r.1, { L with es := L.es ++ [b] }, L.es.length, 0)
def syncG (fl : σ → σ × Int) (D : σ) (L : Lg) : σ × Lg × Int :=
  if L.fin then (D, L, 30) else let r := fl D; if r.2 ≠ 0 then (r.1, { L with fin := true }, r.2) else (r.1, { L with sure := L.es.length }, 0)
/-- is there room for all? the room left -/
def compactG (wr : σ → Int → Blk → σ × Int) (fl : σ → σ × Int) (D : σ) (L : Lg) (size : Nat) (es : List (List UInt8)) : σ × Lg × Int :=
  if es.any (fun b => decide (b.length > 65536)) then (D, L, 3) else if (strm es).length > 63 * size then (D, L, 2) else if L.fin then (D, L, 30) else
  let r := anewG wr fl D L.g L.half size es
  (r.1, anewL L es r.2, r.2)
/-- the head that counts, and the entries that are found -/
def findG (last : Nat → Blk) : Int × Nat :=
  let a := isHd (last 0) 0
  let p : Int × Nat := if a.1 > 0 then a else (0, 1)
  let b := isHd (last 1) 1
  if b.1 > p.1 then b else p
def foundG (last : Nat → Blk) (size : Nat) : List (List UInt8) :=
  if (findG last).1 = 0 then [] else entP (strmOf ((List.range size).map fun i => last (2 + (findG last).2 * size + i)))
/-- a log is opened: the device, the log, the error -/
def openG (wr : σ → Int → Blk → σ × Int) (fl : σ → σ × Int) (last : σ → Nat → Blk) (off : σ → Bool) (len : Nat) (D : σ) : σ × Option Lg × Int :=
  if len < 4 then (D, none, 1) else if off D then (D, none, 30) else
  let p := findG (last D)
  let es := foundG (last D) ((len - 2) / 2)
  let r := anewG wr fl D p.1 p.2 ((len - 2) / 2) es
  if r.2 ≠ 0 then (r.1, none, r.2) else (r.1, some (anewL ⟨p.1, p.2, [], 0, true⟩ es 0), 0)
end
theorem findG_bd (last : Nat → Blk) : 0 ≤ (findG last).1 ∧ (findG last).2 ≤ 1 := by
  have h0 := isHd_bd (last 0) 0
  have h1 := isHd_bd (last 1) 1
  unfold findG
  dsimp only
  by_cases ha : (isHd (last 0) 0).1 > 0
  · rw [if_pos ha]
    split <;> omega
  · rw [if_neg ha]
    split
    · omega
    · simp
theorem foundG_fits (last : Nat → Blk) (size : Nat) : (strm (foundG last size)).length ≤ 63 * size ∧ ∀ e ∈ foundG last size, e.length ≤ 65536 := by
  unfold foundG
  split
  · simp [strm]
  · have h := entP_fits _ (strmOf ((List.range size).map fun i => last (2 + (findG last).2 * size + i))) (Nat.le_refl _)
    have h2 := strmOf_len ((List.range size).map fun i => last (2 + (findG last).2 * size + i))
    rw [List.length_map, List.length_range] at h2
    exact ⟨by omega, h.2⟩

section
variable {σ τ : Type} {wr : σ → Int → Blk → σ × Int} {fl : σ → σ × Int} {wr' : τ → Int → Blk → τ × Int} {fl' : τ → τ × Int} {Rel : σ → τ → Prop}
/-- two devices go along -/
structure Sim (wr : σ → Int → Blk → σ × Int) (fl : σ → σ × Int) (wr' : τ → Int → Blk → τ × Int) (fl' : τ → τ × Int) (Rel : σ → τ → Prop) : Prop where
  wr : ∀ D R i b, Rel D R → (wr' R i b).2 = (wr D i b).2 ∧ Rel (wr D i b).1 (wr' R i b).1
  fl : ∀ D R, Rel D R → (fl' R).2 = (fl D).2 ∧ Rel (fl D).1 (fl' R).1
/-- what two calls give goes along -/
def Ag (Rel : σ → τ → Prop) (x : σ × Int) (y : τ × Int) : Prop := y.2 = x.2 ∧ Rel x.1 y.1
theorem Sim.wrs (S : Sim wr fl wr' fl' Rel) {D : σ} {R : τ} (h : Rel D R) (k : Int) (f : Nat → Blk) : ∀ n, Ag Rel (wrG wr D k f n) (wrG wr' R k f n)
  | 0 => ⟨rfl, h⟩
  | n + 1 => by
    have ih := S.wrs h k f n
    simp only [wrG]
    rw [ih.1]
    split
    · exact S.wr _ _ _ _ ih.2
    · exact ih
theorem Sim.put_anew (S : Sim wr fl wr' fl' Rel) {D : σ} {R : τ} (h : Rel D R) (g : Int) (half size : Nat) (es : List (List UInt8)) : Ag Rel (anewG wr fl D g half size es) (anewG wr' fl' R g half size es) := by
  unfold anewG
  have h1 := S.wrs h (base (1 - half) size) (chF (strm es)) (nch (strm es))
  generalize wrG wr D (base (1 - half) size) (chF (strm es)) (nch (strm es)) = x1 at *
  generalize wrG wr' R (base (1 - half) size) (chF (strm es)) (nch (strm es)) = y1 at *
  dsimp only
  rw [h1.1]
  split
  · exact h1
  have h2 := S.wrs h1.2 (base (1 - half) size + nch (strm es)) (fun _ => List.replicate 64 0) (size - nch (strm es))
  generalize wrG wr x1.1 (base (1 - half) size + nch (strm es)) (fun _ => List.replicate 64 0) (size - nch (strm es)) = x2 at *
  generalize wrG wr' y1.1 (base (1 - half) size + nch (strm es)) (fun _ => List.replicate 64 0) (size - nch (strm es)) = y2 at *
  rw [h2.1]
  split
  · exact h2
  have h3 := S.fl _ _ h2.2
  rw [h3.1]
  split
  · exact h3
  have h4 := S.wr _ _ ((wrap64 (g + 1)).tmod 2) (headB (wrap64 (g + 1)) (1 - half)) h3.2
  rw [h4.1]
  split
  · exact h4
  exact S.fl _ _ h4.2
theorem Sim.put_append (S : Sim wr fl wr' fl' Rel) {D : σ} {R : τ} (h : Rel D R) (L : Lg) (size : Nat) (b : List UInt8) : (appendG wr' R L size b).2 = (appendG wr D L size b).2 ∧ Rel (appendG wr D L size b).1 (appendG wr' R L size b).1 := by
  unfold appendG
  split
  · exact ⟨rfl, h⟩
  split
  · exact ⟨rfl, h⟩
  split
  · exact ⟨rfl, h⟩
  have h1 : Ag Rel (appG wr D L size b) (appG wr' R L size b) := S.wrs h _ _ _
  dsimp only
  rw [h1.1]
  split
  · exact ⟨rfl, h1.2⟩
  · exact ⟨rfl, h1.2⟩
theorem Sim.put_sync (S : Sim wr fl wr' fl' Rel) {D : σ} {R : τ} (h : Rel D R) (L : Lg) : (syncG fl' R L).2 = (syncG fl D L).2 ∧ Rel (syncG fl D L).1 (syncG fl' R L).1 := by
  unfold syncG
  split
  · exact ⟨rfl, h⟩
  have h1 := S.fl _ _ h
  dsimp only
  rw [h1.1]
  split
  · exact ⟨rfl, h1.2⟩
  · exact ⟨rfl, h1.2⟩
theorem Sim.put_compact (S : Sim wr fl wr' fl' Rel) {D : σ} {R : τ} (h : Rel D R) (L : Lg) (size : Nat) (es : List (List UInt8)) : (compactG wr' fl' R L size es).2 = (compactG wr fl D L size es).2 ∧ Rel (compactG wr fl D L size es).1 (compactG wr' fl' R L size es).1 := by
  unfold compactG
  split
  · exact ⟨rfl, h⟩
  split
  · exact ⟨rfl, h⟩
  split
  · exact ⟨rfl, h⟩
  have h1 := S.put_anew h L.g L.half size es
  dsimp only
  exact ⟨by rw [h1.1], h1.2⟩
theorem findG_same {l l' : Nat → Blk} (h0 : l' 0 = l 0) (h1 : l' 1 = l 1) : findG l' = findG l := by unfold findG; rw [h0, h1]
theorem foundG_same {l l' : Nat → Blk} {size : Nat} (h : ∀ i, i < 2 + 2 * size → l' i = l i) : foundG l' size = foundG l size := by
  have hf := findG_same (h 0 (by omega)) (h 1 (by omega))
  unfold foundG
  rw [hf]
  split
  · rfl
  · congr 2
    apply List.map_congr_left
    intro i hi
    rw [List.mem_range] at hi
    have hb := (findG_bd l).2
    apply h
    have : (findG l).2 * size ≤ 1 * size := Nat.mul_le_mul_right _ hb
    omega
theorem Sim.put_open (S : Sim wr fl wr' fl' Rel) {last : σ → Nat → Blk} {last' : τ → Nat → Blk} {off : σ → Bool} {off' : τ → Bool} {len : Nat} {D : σ} {R : τ} (h : Rel D R) (ho : off' R = off D) (hl : ∀ i, i < len → last' R i = last D i) :
    (openG wr' fl' last' off' len R).2 = (openG wr fl last off len D).2 ∧ Rel (openG wr fl last off len D).1 (openG wr' fl' last' off' len R).1 := by
  unfold openG
  split
  · exact ⟨rfl, h⟩
  rename_i hn
  rw [ho]
  split
  · exact ⟨rfl, h⟩
  rw [findG_same (hl 0 (by omega)) (hl 1 (by omega)), foundG_same (l := last D) (fun i hi => hl i (by omega))]
  have h1 := S.put_anew h (findG (last D)).1 (findG (last D)).2 ((len - 2) / 2) (foundG (last D) ((len - 2) / 2))
  dsimp only
  rw [h1.1]
  split
  · exact ⟨rfl, h1.2⟩
  · exact ⟨rfl, h1.2⟩
end
end Wa
end Go.Proofs.Yteiniahikhiadaa

namespace Go.Proofs.Yteiniahikhiadaa
open Go.RowKit Go.Maps
namespace Wa
open Ce Se
/-- a device whose power does not go -/
structure Alive (D : Dv) (n : Nat) : Prop where
  ok : OkD D
  stops : D.stops = false
  len : D.sure.length = n
theorem Alive.off {D : Dv} {n : Nat} (h : Alive D n) : offD D = false := by simp [offD, h.stops]
theorem Alive.new (n : Nat) : Alive (newD n) n := ⟨OkD.new n, rfl, by simp [newD]⟩
theorem newD_last {n i : Nat} (hi : i < n) : lastD (newD n) i = List.replicate 64 0 := by
  simp [lastD, newD, bGet, hi]
theorem Alive.write {D : Dv} {n i : Nat} {b : Blk} (h : Alive D n) (hi : i < n) (hb : b.length = 64) :
    (writeD D i b).2 = 0 ∧ Alive (writeD D i b).1 n ∧ ∀ j, lastD (writeD D i b).1 j = if j = i then b else lastD D j := by
  have hl := h.len
  have he : writeD D i b = ({ spendD D with dm := bPut D.dm i b, wr := wrap64 (D.wr + 1) }, 0) := by
    unfold writeD
    rw [if_neg (by omega), h.off]
    rfl
  have hok := h.ok.write i b
  rw [he] at hok ⊢
  refine ⟨rfl, ⟨hok, ?_, ?_⟩, fun j => ?_⟩
  · exact (spendD_stops D).trans h.stops
  · show (spendD D).sure.length = n
    rw [spendD_sure]
    exact hl
  · show (bGet (bPut D.dm i b) j).getD ((spendD D).sure.getD j []) = _
    rw [bGet_put, spendD_sure]
    by_cases e : j = i
    · rw [if_pos (by omega), if_pos e]; rfl
    · rw [if_neg (by omega), if_neg e]; rfl
theorem Alive.flush {D : Dv} {n : Nat} (h : Alive D n) : (flushD D).2 = 0 ∧ Alive (flushD D).1 n ∧ ∀ j, j < n → lastD (flushD D).1 j = lastD D j := by
  have hl := h.len
  have hok := h.ok.flush
  have he : flushD D = ({ spendD D with sure := (List.range D.sure.length).map (lastD D), dm := [], fl := wrap64 (D.fl + 1) }, 0) := by
    unfold flushD
    rw [h.off]
    rfl
  rw [he] at hok ⊢
  refine ⟨rfl, ⟨hok, (spendD_stops D).trans h.stops, by simp [hl]⟩, fun j hj => ?_⟩
  show (none : Option Blk).getD (((List.range D.sure.length).map (lastD D)).getD j []) = _
  rw [getD_range _ _ _ (by omega)]
  rfl
theorem Alive.wrs {D : Dv} {n k : Nat} (h : Alive D n) {f : Nat → Blk} (hf : ∀ j, (f j).length = 64) : ∀ m, k + m ≤ n →
    (wrG writeD D k f m).2 = 0 ∧ Alive (wrG writeD D k f m).1 n ∧ ∀ j, lastD (wrG writeD D k f m).1 j = if k ≤ j ∧ j < k + m then f (j - k) else lastD D j
  | 0, _ => ⟨rfl, h, fun j => by rw [if_neg (by omega)]; rfl⟩
  | m + 1, hm => by
    obtain ⟨i1, i2, i3⟩ := h.wrs (k := k) hf m (by omega)
    simp only [wrG]
    rw [i1, if_pos rfl]
    obtain ⟨w1, w2, w3⟩ := i2.write (i := k + m) (b := f m) (by omega) (hf m)
    rw [show ((k + m : Nat) : Int) = (k : Int) + (m : Int) by omega] at w1 w2 w3
    refine ⟨w1, w2, fun j => ?_⟩
    rw [w3 j]
    by_cases e : j = k + m
    · rw [if_pos e, if_pos (by omega), e, show k + m - k = m by omega]
    · rw [if_neg e, i3 j]
      by_cases e2 : k ≤ j ∧ j < k + m
      · rw [if_pos e2, if_pos (by omega)]
      · rw [if_neg e2, if_neg (by omega)]
theorem nch_le {l : List UInt8} {n : Nat} (h : l.length ≤ 63 * n) : nch l ≤ n := by unfold nch; omega
/-- what stands on a device: a log's head, the stream of its entries -/
structure Lay (D : Dv) (n : Nat) (g : Int) (half : Nat) (es : List (List UInt8)) : Prop where
  al : Alive D n
  four : 4 ≤ n
  g1 : 1 ≤ g
  g2 : g < 9223372036854775808
  hf : half ≤ 1
  fits : (strm es).length ≤ 63 * ((n - 2) / 2)
  ok : ∀ e ∈ es, e.length ≤ 65536
  head : lastD D (g % 2).toNat = headB g half
  other : (isHd (lastD D (1 - g % 2).toNat) (1 - g % 2).toNat).1 < g
  body : ∀ i, i < (n - 2) / 2 → lastD D (2 + half * ((n - 2) / 2) + i) = chF (strm es) i
theorem Lay.find {D : Dv} {n : Nat} {g : Int} {half : Nat} {es : List (List UInt8)} (h : Lay D n g half es) : findG (lastD D) = (g, half) := by
  have hh := isHd_head (i := (g % 2).toNat) h.g1 h.g2 (by omega) h.hf
  have ho := h.other
  have hd := h.head
  have h1 := h.g1
  unfold findG
  dsimp only
  rcases (show g % 2 = 0 ∨ g % 2 = 1 by omega) with e | e
  · rw [e] at hh hd ho
    simp only [Int.toNat_zero, Int.sub_zero, Int.toNat_one] at hh hd ho
    rw [hd, hh]
    dsimp only
    rw [show (if g > 0 then (g, half) else (0, 1)) = (g, half) from if_pos (by omega)]
    dsimp only
    rw [if_neg (by omega)]
  · rw [e] at hh hd ho
    simp only [Int.toNat_one, Int.sub_self, Int.toNat_zero] at hh hd ho
    rw [hd, hh]
    by_cases hp : (isHd (lastD D 0) 0).1 > 0
    · rw [if_pos hp, if_pos (by omega)]
    · rw [if_neg hp, if_pos (by dsimp only; omega)]
theorem Lay.found {D : Dv} {n : Nat} {g : Int} {half : Nat} {es : List (List UInt8)} (h : Lay D n g half es) : foundG (lastD D) ((n - 2) / 2) = es := by
  have h1 := h.g1
  unfold foundG
  rw [h.find]
  dsimp only
  rw [if_neg (by omega)]
  have e : (List.range ((n - 2) / 2)).map (fun i => lastD D (2 + half * ((n - 2) / 2) + i)) = (List.range ((n - 2) / 2)).map (chF (strm es)) := by
    apply List.map_congr_left
    intro i hi
    exact h.body i (List.mem_range.1 hi)
  rw [e, strmOf_chs _ _ h.fits, entP_strm h.ok]
theorem tmod2 {g : Int} (h : 0 ≤ g) : g.tmod 2 = g % 2 := Int.tmod_eq_emod_of_nonneg h
/-- put down anew, entries are there -/
theorem Alive.anew {D : Dv} {n : Nat} (h : Alive D n) (h4 : 4 ≤ n) {g : Int} {half : Nat} (hg0 : 0 ≤ g) (hg1 : g + 1 < 9223372036854775808) (hh : half ≤ 1) {es : List (List UInt8)} (hfit : (strm es).length ≤ 63 * ((n - 2) / 2)) (hok : ∀ e ∈ es, e.length ≤ 65536)
    (hold : (isHd (lastD D (g % 2).toNat) (g % 2).toNat).1 < g + 1) :
    (anewG writeD flushD D g half ((n - 2) / 2) es).2 = 0 ∧ Lay (anewG writeD flushD D g half ((n - 2) / 2) es).1 n (g + 1) (1 - half) es := by
  have hw : wrap64 (g + 1) = g + 1 := by unfold wrap64; omega
  have hn := nch_le hfit
  have hb : (1 - half) * ((n - 2) / 2) ≤ (n - 2) / 2 := by
    have := Nat.mul_le_mul_right ((n - 2) / 2) (show 1 - half ≤ 1 by omega)
    omega
  obtain ⟨bs, hbs⟩ : ∃ bs : Nat, 2 + (1 - half) * ((n - 2) / 2) = bs := ⟨_, rfl⟩
  have hbase : base (1 - half) ((n - 2) / 2) = (bs : Int) := by unfold base; rw [← hbs]; omega
  have hb2 : 2 ≤ bs := by omega
  have hb3 : bs + (n - 2) / 2 ≤ n := by omega
  unfold anewG
  rw [hbase, hw, tmod2 (by omega)]
  obtain ⟨a1, a2, a3⟩ := h.wrs (k := bs) (f := chF (strm es)) (chF_len _) (nch (strm es)) (by omega)
  generalize wrG writeD D bs (chF (strm es)) (nch (strm es)) = x1 at *
  dsimp only
  rw [if_neg (by rw [a1]; simp)]
  obtain ⟨b1, b2, b3⟩ := a2.wrs (k := bs + nch (strm es)) (f := fun _ => List.replicate 64 0) (fun _ => by simp) ((n - 2) / 2 - nch (strm es)) (by omega)
  rw [show ((bs + nch (strm es) : Nat) : Int) = (bs : Int) + (nch (strm es) : Int) by omega] at b1 b2 b3
  generalize wrG writeD x1.1 (bs + nch (strm es)) (fun _ => List.replicate 64 0) ((n - 2) / 2 - nch (strm es)) = x2 at *
  rw [if_neg (by rw [b1]; simp)]
  obtain ⟨c1, c2, c3⟩ := b2.flush
  generalize flushD x2.1 = x3 at *
  rw [if_neg (by rw [c1]; simp)]
  obtain ⟨gi, hgi⟩ : ∃ gi : Nat, (g + 1) % 2 = gi := ⟨((g + 1) % 2).toNat, by omega⟩
  rw [hgi]
  obtain ⟨d1, d2, d3⟩ := c2.write (i := gi) (b := headB (g + 1) (1 - half)) (by omega) (headB_len _ _)
  generalize writeD x3.1 gi (headB (g + 1) (1 - half)) = x4 at *
  rw [if_neg (by rw [d1]; simp)]
  obtain ⟨e1, e2, e3⟩ := d2.flush
  generalize flushD x4.1 = x5 at *
  have at2 : ∀ j, j < n → lastD x5.1 j = if j = gi then headB (g + 1) (1 - half) else if bs + nch (strm es) ≤ j ∧ j < bs + (n - 2) / 2 then List.replicate 64 0 else if bs ≤ j ∧ j < bs + nch (strm es) then chF (strm es) (j - bs) else lastD D j := fun j hj => by
    rw [e3 j hj, d3 j]
    by_cases h1 : j = gi
    · rw [if_pos h1, if_pos h1]
    · rw [if_neg h1, if_neg h1, c3 j hj, b3 j, a3 j]
      by_cases h2 : bs + nch (strm es) ≤ j ∧ j < bs + (n - 2) / 2
      · rw [if_pos h2, if_pos (by omega)]
      · rw [if_neg h2, if_neg (by omega)]
  refine ⟨e1, e2, h4, by omega, hg1, by omega, hfit, hok, ?_, ?_, fun i hi => ?_⟩
  · rw [hgi, at2 _ (by omega), if_pos (by simp)]
  · have e : (1 - (g + 1) % 2).toNat = (g % 2).toNat := by omega
    rw [e, at2 _ (by omega), if_neg (by omega), if_neg (by omega), if_neg (by omega)]
    exact hold
  · rw [hbs, at2 _ (by omega), if_neg (by omega)]
    by_cases h1 : nch (strm es) ≤ i
    · rw [if_pos (by omega), chF_far h1]
    · rw [if_neg (by omega), if_pos (by omega), show bs + i - bs = i by omega]
theorem Lay.again {D : Dv} {n : Nat} {g : Int} {half : Nat} {es : List (List UInt8)} (h : Lay D n g half es) (hg : g + 1 < 9223372036854775808) :
    (openG writeD flushD lastD offD n D).2.2 = 0 ∧ (openG writeD flushD lastD offD n D).2.1 = some ⟨g + 1, 1 - half, es, es.length, false⟩ ∧ Lay (openG writeD flushD lastD offD n D).1 n (g + 1) (1 - half) es := by
  have h4 := h.four
  have hg1 := h.g1
  have hw : wrap64 (g + 1) = g + 1 := by unfold wrap64; omega
  have hh := isHd_head (i := (g % 2).toNat) h.g1 h.g2 (by omega) h.hf
  obtain ⟨a1, a2⟩ := h.al.anew h4 (g := g) (half := half) (by omega) hg h.hf h.fits h.ok (by rw [h.head, hh]; dsimp only; omega)
  unfold openG
  rw [if_neg (by omega), h.al.off, if_neg (by simp), h.find, h.found]
  dsimp only
  rw [if_neg (by rw [a1]; simp)]
  refine ⟨rfl, ?_, a2⟩
  unfold anewL
  rw [if_pos rfl]
  dsimp only
  rw [hw]
theorem isHd_low {n i : Nat} (hi : i < n) (k : Nat) : isHd (lastD (newD n) i) k = (0, 0) := by rw [newD_last hi, isHd_zero]
/-- on a new device -/
theorem open_new {n : Nat} (h4 : 4 ≤ n) :
    (openG writeD flushD lastD offD n (newD n)).2.2 = 0 ∧ (openG writeD flushD lastD offD n (newD n)).2.1 = some ⟨1, 0, [], 0, false⟩ ∧ Lay (openG writeD flushD lastD offD n (newD n)).1 n 1 0 [] := by
  have hA := Alive.new n
  have hf : findG (lastD (newD n)) = (0, 1) := by
    unfold findG
    rw [isHd_low (by omega), isHd_low (by omega)]
    rfl
  have hfo : foundG (lastD (newD n)) ((n - 2) / 2) = [] := by
    unfold foundG
    rw [hf]
    rfl
  obtain ⟨a1, a2⟩ := hA.anew h4 (g := 0) (half := 1) (by omega) (by omega) (by omega) (es := []) (by simp [strm]) (fun e he => by cases he) (by rw [isHd_low (by simp; omega)]; simp)
  unfold openG
  rw [if_neg (by omega), hA.off, if_neg (by simp), hf, hfo]
  dsimp only
  rw [if_neg (by rw [a1]; simp)]
  refine ⟨rfl, ?_, a2⟩
  have hw : wrap64 (0 + 1) = 1 := by unfold wrap64; omega
  unfold anewL
  rw [if_pos rfl]
  dsimp only
  rw [hw]
  rfl
/-- an entry more -/
theorem Lay.append {D : Dv} {n : Nat} {L : Lg} (h : Lay D n L.g L.half L.es) (hfin : L.fin = false) (b : List UInt8) :
    (b.length > 65536 ∧ appendG writeD D L ((n - 2) / 2) b = (D, L, 0, 3)) ∨ (b.length ≤ 65536 ∧ (b.length : Int) + 3 > roomL L ((n - 2) / 2) ∧ appendG writeD D L ((n - 2) / 2) b = (D, L, 0, 2)) ∨
    (b.length ≤ 65536 ∧ (b.length : Int) + 3 ≤ roomL L ((n - 2) / 2) ∧ ∃ D', appendG writeD D L ((n - 2) / 2) b = (D', { L with es := L.es ++ [b] }, (L.es.length : Int), 0) ∧ Lay D' n L.g L.half (L.es ++ [b])) := by
  unfold appendG
  by_cases h1 : b.length > 65536
  · rw [if_pos h1]; exact .inl ⟨h1, rfl⟩
  rw [if_neg h1]
  by_cases h2 : (b.length : Int) + 3 > roomL L ((n - 2) / 2)
  · rw [if_pos h2]; exact .inr (.inl ⟨by omega, h2, rfl⟩)
  rw [if_neg h2, hfin, if_neg (by simp)]
  refine .inr (.inr ⟨by omega, by omega, ?_⟩)
  have hu : used L = (strm L.es).length := rfl
  have hs := strm_snoc L.es b
  have hle := encE_len b
  have hfit : (strm (L.es ++ [b])).length ≤ 63 * ((n - 2) / 2) := by
    rw [hs, List.length_append, hle]
    unfold roomL at h2
    omega
  have hn := nch_le hfit
  have h4 := h.four
  have hb : L.half * ((n - 2) / 2) ≤ (n - 2) / 2 := by
    have := Nat.mul_le_mul_right ((n - 2) / 2) h.hf
    omega
  obtain ⟨bs, hbs⟩ : ∃ bs : Nat, 2 + L.half * ((n - 2) / 2) = bs := ⟨_, rfl⟩
  have hbase : base L.half ((n - 2) / 2) = (bs : Int) := by unfold base; rw [← hbs]; omega
  have hnc : used L / 63 ≤ nch (strm (L.es ++ [b])) := by
    unfold nch
    rw [hs, List.length_append, hle]
    omega
  obtain ⟨a1, a2, a3⟩ := h.al.wrs (k := bs + used L / 63) (f := fun j => chF (strm (L.es ++ [b])) (used L / 63 + j)) (fun _ => chF_len _ _) (nch (strm (L.es ++ [b])) - used L / 63) (by omega)
  have ea : appG writeD D L ((n - 2) / 2) b = wrG writeD D ((bs + used L / 63 : Nat) : Int) (fun j => chF (strm (L.es ++ [b])) (used L / 63 + j)) (nch (strm (L.es ++ [b])) - used L / 63) := by
    unfold appG
    rw [hbase]
    rfl
  rw [ea]
  generalize wrG writeD D ((bs + used L / 63 : Nat) : Int) (fun j => chF (strm (L.es ++ [b])) (used L / 63 + j)) (nch (strm (L.es ++ [b])) - used L / 63) = x at *
  dsimp only
  rw [if_neg (by rw [a1]; simp)]
  refine ⟨x.1, rfl, a2, h4, h.g1, h.g2, h.hf, hfit, fun e he => ?_, ?_, ?_, fun i hi => ?_⟩
  · rcases List.mem_append.1 he with he | he
    · exact h.ok e he
    · rw [List.mem_singleton.1 he]; omega
  · rw [a3, if_neg (by omega)]; exact h.head
  · rw [a3, if_neg (by omega)]; exact h.other
  · rw [hbs, a3]
    by_cases h3 : bs + used L / 63 ≤ bs + i ∧ bs + i < bs + used L / 63 + (nch (strm (L.es ++ [b])) - used L / 63)
    · rw [if_pos h3, show used L / 63 + (bs + i - (bs + used L / 63)) = i by omega]
    · rw [if_neg h3, ← hbs, h.body i hi]
      by_cases h5 : i < used L / 63
      · unfold chF
        congr 1
        rw [hs, List.drop_append_of_le_length (by omega), List.take_append_of_le_length (by rw [List.length_drop]; omega)]
      · rw [chF_far (l := strm (L.es ++ [b])) (by omega), chF_far (by unfold nch at h3 ⊢; rw [hs, List.length_append, hle] at h3; omega)]
theorem Lay.sync {D : Dv} {n : Nat} {L : Lg} (h : Lay D n L.g L.half L.es) (hfin : L.fin = false) : ∃ D', syncG flushD D L = (D', { L with sure := L.es.length }, 0) ∧ Lay D' n L.g L.half L.es := by
  obtain ⟨a1, a2, a3⟩ := h.al.flush
  unfold syncG
  rw [hfin, if_neg (by simp)]
  dsimp only
  rw [if_neg (by rw [a1]; simp)]
  have h4 := h.four
  have hb : L.half * ((n - 2) / 2) ≤ (n - 2) / 2 := by
    have := Nat.mul_le_mul_right ((n - 2) / 2) h.hf
    omega
  exact ⟨_, rfl, a2, h4, h.g1, h.g2, h.hf, h.fits, h.ok, by rw [a3 _ (by omega)]; exact h.head, by rw [a3 _ (by omega)]; exact h.other, fun i hi => by rw [a3 _ (by omega)]; exact h.body i hi⟩
end Wa
end Go.Proofs.Yteiniahikhiadaa

namespace Go.Proofs.Yteiniahikhiadaa
open Go.RowKit Go.Maps
namespace Wa
open Ce Se
theorem Alive.anew_ok {D : Dv} {n : Nat} (h : Alive D n) (h4 : 4 ≤ n) {g : Int} {half : Nat} (hg0 : 0 ≤ g) (hg1 : g < 9223372036854775808) {es : List (List UInt8)} (hfit : (strm es).length ≤ 63 * ((n - 2) / 2)) :
    (anewG writeD flushD D g half ((n - 2) / 2) es).2 = 0 ∧ Alive (anewG writeD flushD D g half ((n - 2) / 2) es).1 n := by
  have hn := nch_le hfit
  have hb : (1 - half) * ((n - 2) / 2) ≤ (n - 2) / 2 := by
    have := Nat.mul_le_mul_right ((n - 2) / 2) (show 1 - half ≤ 1 by omega)
    omega
  obtain ⟨bs, hbs⟩ : ∃ bs : Nat, 2 + (1 - half) * ((n - 2) / 2) = bs := ⟨_, rfl⟩
  have hbase : base (1 - half) ((n - 2) / 2) = (bs : Int) := by unfold base; rw [← hbs]; omega
  have hb3 : bs + (n - 2) / 2 ≤ n := by omega
  obtain ⟨gi, hgi, hgi2⟩ : ∃ gi : Nat, (wrap64 (g + 1)).tmod 2 = gi ∧ gi < 2 := by
    by_cases e : g = 9223372036854775807
    · subst e; exact ⟨0, by rw [show wrap64 (9223372036854775807 + 1) = -9223372036854775808 by unfold wrap64; omega]; decide, by omega⟩
    · refine ⟨((g + 1) % 2).toNat, ?_, by omega⟩
      have hw : wrap64 (g + 1) = g + 1 := by unfold wrap64; omega
      rw [hw, tmod2 (by omega)]
      omega
  unfold anewG
  rw [hbase, hgi]
  obtain ⟨a1, a2, -⟩ := h.wrs (k := bs) (f := chF (strm es)) (chF_len _) (nch (strm es)) (by omega)
  generalize wrG writeD D bs (chF (strm es)) (nch (strm es)) = x1 at *
  dsimp only
  rw [if_neg (by rw [a1]; simp)]
  obtain ⟨b1, b2, -⟩ := a2.wrs (k := bs + nch (strm es)) (f := fun _ => List.replicate 64 0) (fun _ => by simp) ((n - 2) / 2 - nch (strm es)) (by omega)
  rw [show ((bs + nch (strm es) : Nat) : Int) = (bs : Int) + (nch (strm es) : Int) by omega] at b1 b2
  generalize wrG writeD x1.1 (bs + nch (strm es)) (fun _ => List.replicate 64 0) ((n - 2) / 2 - nch (strm es)) = x2 at *
  rw [if_neg (by rw [b1]; simp)]
  obtain ⟨c1, c2, -⟩ := b2.flush
  generalize flushD x2.1 = x3 at *
  rw [if_neg (by rw [c1]; simp)]
  obtain ⟨d1, d2, -⟩ := c2.write (i := gi) (b := headB (wrap64 (g + 1)) (1 - half)) (by omega) (headB_len _ _)
  generalize writeD x3.1 gi (headB (wrap64 (g + 1)) (1 - half)) = x4 at *
  rw [if_neg (by rw [d1]; simp)]
  obtain ⟨e1, e2, -⟩ := d2.flush
  exact ⟨e1, e2⟩
theorem beF_lt : ∀ (l : List UInt8), be l < 256 ^ l.length := fun l => be_lt l.length l rfl
theorem isHd_lt (b : Blk) (i : Nat) : (isHd b i).1 < 9223372036854775808 := by
  unfold isHd
  split
  · simp
  · have h := beF_lt (b.take 8)
    have h2 : 256 ^ (b.take 8).length ≤ 256 ^ 8 := Nat.pow_le_pow_right (by omega) (by rw [List.length_take]; omega)
    exact (toI_bd (u := be (b.take 8)) (by omega)).2
theorem findG_lt (last : Nat → Blk) : (findG last).1 < 9223372036854775808 := by
  have h0 := isHd_lt (last 0) 0
  have h1 := isHd_lt (last 1) 1
  unfold findG
  dsimp only
  by_cases ha : (isHd (last 0) 0).1 > 0
  · rw [if_pos ha]
    split <;> omega
  · rw [if_neg ha]
    split
    · omega
    · simp
/-- what holds of a log, whatever its device does -/
structure LgOk (L : Lg) (size : Nat) : Prop where
  g1 : -9223372036854775808 ≤ L.g
  g2 : L.g < 9223372036854775808
  hf : L.half ≤ 1
  fits : (strm L.es).length ≤ 63 * size
  ok : ∀ e ∈ L.es, e.length ≤ 65536
  sure : L.sure ≤ L.es.length
theorem wrap64_lt (x : Int) : -9223372036854775808 ≤ wrap64 x ∧ wrap64 x < 9223372036854775808 := by unfold wrap64; omega
theorem LgOk.anew {L : Lg} {size : Nat} (h : LgOk L size) {es : List (List UInt8)} (hfit : (strm es).length ≤ 63 * size) (hok : ∀ e ∈ es, e.length ≤ 65536) (e : Int) : LgOk (anewL L es e) size := by
  unfold anewL
  split
  · exact ⟨(wrap64_lt _).1, (wrap64_lt _).2, by dsimp only; omega, hfit, hok, Nat.le_refl _⟩
  · exact ⟨h.g1, h.g2, h.hf, h.fits, h.ok, h.sure⟩
theorem LgOk.append {σ : Type} {wr : σ → Int → Blk → σ × Int} {D : σ} {L : Lg} {size : Nat} (h : LgOk L size) (b : List UInt8) : LgOk (appendG wr D L size b).2.1 size := by
  unfold appendG
  split
  · exact h
  rename_i h1
  split
  · exact h
  rename_i h2
  split
  · exact h
  dsimp only
  split
  · exact ⟨h.g1, h.g2, h.hf, h.fits, h.ok, h.sure⟩
  · refine ⟨h.g1, h.g2, h.hf, ?_, fun e he => ?_, ?_⟩
    · show (strm (L.es ++ [b])).length ≤ _
      unfold roomL used at h2
      rw [strm_snoc, List.length_append, encE_len]
      omega
    · rcases List.mem_append.1 he with he | he
      · exact h.ok e he
      · rw [List.mem_singleton.1 he]; omega
    · have := h.sure
      show L.sure ≤ (L.es ++ [b]).length
      rw [List.length_append]
      omega
theorem LgOk.sync {σ : Type} {fl : σ → σ × Int} {D : σ} {L : Lg} {size : Nat} (h : LgOk L size) : LgOk (syncG fl D L).2.1 size := by
  unfold syncG
  split
  · exact h
  dsimp only
  split
  · exact ⟨h.g1, h.g2, h.hf, h.fits, h.ok, h.sure⟩
  · exact ⟨h.g1, h.g2, h.hf, h.fits, h.ok, Nat.le_refl _⟩
theorem LgOk.compact {σ : Type} {wr : σ → Int → Blk → σ × Int} {fl : σ → σ × Int} {D : σ} {L : Lg} {size : Nat} (h : LgOk L size) (es : List (List UInt8)) : LgOk (compactG wr fl D L size es).2.1 size := by
  unfold compactG
  split
  · exact h
  rename_i h1
  split
  · exact h
  rename_i h2
  split
  · exact h
  refine h.anew (by omega) (fun e he => ?_) _
  apply Decidable.byContradiction
  intro h3
  exact h1 (List.any_eq_true.2 ⟨e, he, by simpa using h3⟩)
theorem openG_ok {σ : Type} {wr : σ → Int → Blk → σ × Int} {fl : σ → σ × Int} {last : σ → Nat → Blk} {off : σ → Bool} {len : Nat} {D : σ} {L : Lg} (h : (openG wr fl last off len D).2.1 = some L) : LgOk L ((len - 2) / 2) ∧ 4 ≤ len ∧ (openG wr fl last off len D).2.2 = 0 := by
  unfold openG at h ⊢
  split
  · rename_i h1; rw [if_pos h1] at h; cases h
  rename_i h1
  rw [if_neg h1] at h
  split
  · rename_i h2; rw [if_pos h2] at h; cases h
  rename_i h2
  rw [if_neg h2] at h
  dsimp only at h ⊢
  split
  · rename_i h3; rw [if_pos h3] at h; cases h
  rename_i h3
  rw [if_neg h3] at h
  refine ⟨?_, by omega, rfl⟩
  cases h
  obtain ⟨f1, f2⟩ := foundG_fits (last D) ((len - 2) / 2)
  have hb := findG_bd (last D)
  have hl := findG_lt (last D)
  unfold anewL
  rw [if_pos rfl]
  exact ⟨(wrap64_lt _).1, (wrap64_lt _).2, by dsimp only; omega, f1, f2, Nat.le_refl _⟩
theorem Alive.open_ok {D : Dv} {n : Nat} (h : Alive D n) (h4 : 4 ≤ n) :
    (openG writeD flushD lastD offD n D).2.2 = 0 ∧ (∃ L, (openG writeD flushD lastD offD n D).2.1 = some L) ∧ Alive (openG writeD flushD lastD offD n D).1 n := by
  obtain ⟨f1, f2⟩ := foundG_fits (lastD D) ((n - 2) / 2)
  have hb := findG_bd (lastD D)
  have hl := findG_lt (lastD D)
  obtain ⟨a1, a2⟩ := h.anew_ok h4 (half := (findG (lastD D)).2) hb.1 hl f1
  unfold openG
  rw [if_neg (by omega), h.off, if_neg (by simp)]
  dsimp only
  rw [if_neg (by rw [a1]; simp)]
  exact ⟨rfl, ⟨_, rfl⟩, a2⟩
theorem Alive.crash {D : Dv} {n : Nat} (h : OkD D) (hl : D.sure.length = n) : Alive (crashD D [] (-1) 0).1 n := by
  have hok := h.crash [] (-1) 0
  unfold crashD at hok ⊢
  rw [if_neg (by omega)] at hok ⊢
  exact ⟨hok, rfl, by simp [hl]⟩
/-- the program's device and the document's -/
def Pair (n : Nat) (D : Dv) (R : Rv) : Prop := OkD D ∧ Along D R ∧ D.sure.length = n
theorem lenW (D : Dv) (i : Int) (b : Blk) : (writeD D i b).1.sure.length = D.sure.length := by
  unfold writeD
  split
  · rfl
  split
  · rfl
  · show (spendD D).sure.length = _
    rw [spendD_sure]
theorem lenF (D : Dv) : (flushD D).1.sure.length = D.sure.length := by
  unfold flushD
  split
  · rfl
  · simp
theorem pair_sim (n : Nat) : Sim writeD flushD writeR flushR (Pair n) := by
  refine ⟨fun D R i b h => ?_, fun D R h => ?_⟩
  · obtain ⟨h1, h2⟩ := h.2.1.write h.1 i b
    exact ⟨h1, h.1.write i b, h2, (lenW _ _ _).trans h.2.2⟩
  · obtain ⟨h1, h2⟩ := h.2.1.flush h.1
    exact ⟨h1, h.1.flush, h2, (lenF _).trans h.2.2⟩
theorem Pair.last {n : Nat} {D : Dv} {R : Rv} (h : Pair n D R) {i : Nat} (hi : i < n) : R.last.getD i [] = lastD D i := by
  rw [h.2.1.last, getD_range _ _ _ (by have := h.2.2; omega)]
end Wa
end Go.Proofs.Yteiniahikhiadaa

namespace Go.Proofs.Yteiniahikhiadaa
open Go.RowKit

/-- block b holds an object of type t, whose cells are cs -/
def Ob (w : World) (b : Nat) (t : TypeId) (cs : Array Value) : Prop := w.heap[b]? = some (.cells cs t (0, 0))
section
variable {w w' : World} {b b' j B : Nat} {t : TypeId} {cs : Array Value} {row : Option Nat}
theorem Ob.lt (h : Ob w b t cs) : b < w.heap.size := (Array.getElem?_eq_some_iff.1 h).1
theorem Ob.cell (h : Ob w b t cs) {v : Value} (hj : cs[j]? = some v) : w.cell? ⟨b, j, none⟩ = some v := by
  simp [World.cell?, show w.heap[b]? = _ from h, hj]
theorem Ob.frozen (h : Ob w b t cs) (j : Nat) : w.frozen? ⟨b, j, none⟩ = false := by simp [World.frozen?, show w.heap[b]? = _ from h]
theorem Ob.new (w : World) (t : TypeId) (cs : Array Value) : Ob (w.alloc (.cells cs t)) w.heap.size t cs := heap_alloc_new w _
theorem Ob.kept (h : Ob w b t cs) (hg : w.grownBy w' row) (hne : some b ≠ row) : Ob w' b t cs := (hg.block b h.lt hne).trans h
theorem Ob.alloc (h : Ob w b t cs) (o : Obj) : Ob (w.alloc o) b t cs := h.kept (World.grownBy_alloc w o none) (by simp)
theorem Ob.below (h : Ob w b t cs) (hb : Below B w w') (hB : b < B) : Ob w' b t cs := (hb.block b hB).trans h
theorem Ob.same (h : Ob w b t cs) (hb : Below w.heap.size w w') : Ob w' b t cs := h.below hb h.lt
theorem Ob.set (h : Ob w b t cs) (j : Nat) (v : Value) : Ob (w.setCell ⟨b, j, none⟩ v) b t (cs.setIfInBounds j v) := by
  obtain ⟨hlt, hk⟩ := Array.getElem?_eq_some_iff.1 h
  show (w.heap.modify b _)[b]? = _
  rw [Array.getElem?_eq_getElem (by rw [Array.size_modify]; exact hlt), Array.getElem_modify_self, hk]
  simp
theorem grownBy_set (w : World) (b j : Nat) (v : Value) : w.grownBy (w.setCell ⟨b, j, none⟩ v) (some b) :=
  ⟨rfl, rfl, rfl, (KeepsWalks.setCell w _ v).size, fun k _ hk => Below.heap_setCell _ _ _ k (fun e => hk (by rw [e]))⟩
theorem Ob.other (h : Ob w b t cs) (hne : b ≠ b') (j : Nat) (v : Value) : Ob (w.setCell ⟨b', j, none⟩ v) b t cs := h.kept (grownBy_set w b' j v) (fun e => hne (by cases e; rfl))
end

/-- the blocks of Fr are as they were -/
structure Kept (Fr : Nat → Prop) (w w' : World) : Prop where
  os : w'.os = w.os
  tape : w'.tape = w.tape
  output : w'.output = w.output
  size : w.heap.size ≤ w'.heap.size
  block : ∀ k, Fr k → w'.heap[k]? = w.heap[k]?
section
variable {Fr Fr' : Nat → Prop} {a b c w w' : World} {B : Nat} {row : Option Nat}
theorem Kept.refl (Fr : Nat → Prop) (w : World) : Kept Fr w w := ⟨rfl, rfl, rfl, Nat.le_refl _, fun _ _ => rfl⟩
theorem Kept.trans (h : Kept Fr a b) (k : Kept Fr b c) : Kept Fr a c :=
  ⟨k.os.trans h.os, k.tape.trans h.tape, k.output.trans h.output, Nat.le_trans h.size k.size, fun i hi => (k.block i hi).trans (h.block i hi)⟩
theorem Kept.mono (h : Kept Fr a b) (hF : ∀ i, Fr' i → Fr i) : Kept Fr' a b := ⟨h.os, h.tape, h.output, h.size, fun i hi => h.block i (hF i hi)⟩
theorem Kept.of_below (h : Below B w w') (hF : ∀ i, Fr i → i < B) : Kept Fr w w' := ⟨h.os, h.tape, h.output, h.size, fun i hi => h.block i (hF i hi)⟩
theorem Kept.of_grown (h : w.grownBy w' row) (hF : ∀ i, Fr i → i < w.heap.size ∧ some i ≠ row) : Kept Fr w w' := ⟨h.os, h.tape, h.output, h.size, fun i hi => h.block i (hF i hi).1 (hF i hi).2⟩
theorem Kept.below (h : Kept Fr w w') (hF : ∀ i, i < B → Fr i) : Below B w w' := ⟨h.os, h.tape, h.output, h.size, fun i hi => h.block i (hF i hi)⟩
theorem Kept.ob {b : Nat} {t : TypeId} {cs : Array Value} (h : Kept Fr w w') (ho : Ob w b t cs) (hF : Fr b) : Ob w' b t cs := (h.block b hF).trans ho
theorem Kept.sl {lo B size n : Nat} {v : Value} {xs : List Value} (h : Kept Fr w w') (hs : Sl w lo B size v n xs) (hF : ∀ i, lo ≤ i → i < B → Fr i) : Sl w' lo B size v n xs :=
  hs.keep fun b _ h1 h2 => World.cell?_of_block (h.block b (hF b h1 h2))
end
end Go.Proofs.Yteiniahikhiadaa

namespace Go.Proofs.Yteiniahikhiadaa
open Go.RowKit Go.Maps
namespace Se
open Ce

section
variable {w w' : World} {b b' o n : Nat} {cs : List Value}
theorem cell_of_block (h : w'.heap[b]? = w.heap[b]?) (j : Nat) : w'.cell? ⟨b, j, none⟩ = w.cell? ⟨b, j, none⟩ := by unfold World.cell?; rw [h]
theorem frozen_of_block (h : w'.heap[b]? = w.heap[b]?) (j : Nat) : w'.frozen? ⟨b, j, none⟩ = w.frozen? ⟨b, j, none⟩ := by unfold World.frozen?; rw [h]
theorem range_of_block (h : w'.heap[b]? = w.heap[b]?) (hr : w.rangeAt b o cs) : w'.rangeAt b o cs := fun j v hv => by rw [cell_of_block h]; exact hr j v hv
theorem there_of_block (h : w'.heap[b]? = w.heap[b]?) (hr : w.there b o n) : w'.there b o n := fun j hj => by rw [cell_of_block h, frozen_of_block h]; exact hr j hj
theorem there_part {k m : Nat} (h : w.there b 0 n) (hk : k + m ≤ n) : w.there b k m := fun j hj => by
  have := h (k + j) (by omega)
  simpa using this
theorem grownBy_cells : ∀ (vs : List Value) (w : World) (o : Nat), w.grownBy (w.setCells b o vs) (some b)
  | [], w, _ => ⟨rfl, rfl, rfl, Nat.le_refl _, fun _ _ _ => rfl⟩
  | v :: r, w, o => by
    rw [World.setCells]
    exact (grownBy_set w b o v).andThen (grownBy_cells r _ (o + 1)) (fun j e => .inr e)
theorem size_cells : ∀ (vs : List Value) (w : World) (o : Nat), (w.setCells b o vs).heap.size = w.heap.size
  | [], w, _ => rfl
  | v :: r, w, o => by
    rw [World.setCells, size_cells r]
    simp
end
/-- a device's sure sectors, in block sb -/
structure SureAt (w : World) (sb : Nat) (bs : List Blk) : Prop where
  at_ : ∀ i (h : i < bs.length), w.rangeAt sb (i * 64) (bytesV bs[i])
  there : w.there sb 0 (bs.length * 64)
  lt : sb < w.heap.size
theorem SureAt.kept {w w' : World} {sb : Nat} {bs : List Blk} (h : SureAt w sb bs) (he : w'.heap[sb]? = w.heap[sb]?) (hs : w.heap.size ≤ w'.heap.size) : SureAt w' sb bs :=
  ⟨fun i hi => range_of_block he (h.at_ i hi), there_of_block he h.there, Nat.lt_of_lt_of_le h.lt hs⟩
theorem SureAt.set {w : World} {sb : Nat} {bs : List Blk} (h : SureAt w sb bs) (hbs : ∀ c ∈ bs, c.length = 64) {i : Nat} (hi : i < bs.length) {b : Blk} (hb : b.length = 64) : SureAt (w.setCells sb (i * 64) (bytesV b)) sb (bs.set i b) := by
  have hl : (bytesV b).length = 64 := by rw [bytesV_length]; exact hb
  refine ⟨fun j hj => ?_, by rw [List.length_set]; exact World.there_setCells h.there _ _ _, by rw [size_cells]; exact h.lt⟩
  rw [List.length_set] at hj
  by_cases e : i = j
  · subst e
    rw [List.getElem_set_self]
    exact World.rangeAt_setCells_same _ _ _ _ (there_part h.there (by omega))
  · rw [List.getElem_set_ne e]
    have hl2 : (bytesV bs[j]).length = 64 := by rw [bytesV_length]; exact hbs _ (List.getElem_mem hj)
    exact World.rangeAt_setCells_apart (h.at_ j hj) _ _ _ (.inr (by omega))
/-- some of a sector's first bytes -/
theorem SureAt.part {w : World} {sb : Nat} {bs : List Blk} (h : SureAt w sb bs) (hbs : ∀ c ∈ bs, c.length = 64) {i : Nat} (hi : i < bs.length) {b : Blk} (hb : b.length ≤ 64) : SureAt (w.setCells sb (i * 64) (bytesV b)) sb (bs.set i (b ++ (bs.getD i []).drop b.length)) := by
  have hl : (bytesV b).length = b.length := bytesV_length b
  have h64 := hbs _ (List.getElem_mem hi)
  have eg : bs.getD i [] = bs[i] := by rw [List.getD_eq_getElem?_getD, List.getElem?_eq_getElem hi]; rfl
  refine ⟨fun j hj => ?_, by rw [List.length_set]; exact World.there_setCells h.there _ _ _, by rw [size_cells]; exact h.lt⟩
  rw [List.length_set] at hj
  by_cases e : i = j
  · subst e
    rw [List.getElem_set_self, eg]
    intro k v hv
    rw [bytesV_append] at hv
    by_cases hk : k < b.length
    · rw [List.getElem?_append_left (by omega)] at hv
      exact World.rangeAt_setCells_same _ _ _ _ (there_part h.there (by omega)) k v hv
    · rw [List.getElem?_append_right (by omega), hl] at hv
      have h2 : (bytesV bs[i])[k]? = some v := by
        unfold bytesV at hv ⊢
        rw [List.map_drop, List.getElem?_drop] at hv
        rwa [show b.length + (k - b.length) = k by omega] at hv
      rw [World.cell?_setCells_out sb _ _ w ⟨sb, i * 64 + k, none⟩ (fun _ _ => .inr (by rw [hl]; show i * 64 + b.length ≤ i * 64 + k; omega))]
      exact h.at_ i hi k v h2
  · rw [List.getElem_set_ne e]
    have hl2 : (bytesV bs[j]).length = 64 := by rw [bytesV_length]; exact hbs _ (List.getElem_mem hj)
    exact World.rangeAt_setCells_apart (h.at_ j hj) _ _ _ (.inr (by omega))
/-- a row of zeros, made -/
theorem SureAt.made {w : World} {g n base cap : Nat} {e : TypeId} {z : Array Value} (hz : z = Array.replicate 64 (.int .u8 0)) (h : w.ownsRow base e 64 (.slice (some ⟨g, 0, none⟩) n cap) n (madeCells z (n * 64)).toList) (hn : 0 < n) : SureAt w g (List.replicate n (List.replicate 64 0)) := by
  obtain ⟨g', cap', e', h1, h2⟩ := h.form hn
  cases e'
  have hc : ∀ k, k < n * 64 → w.cell? ⟨g, k, none⟩ = some (.int .u8 0) := fun k hk => by
    rw [h.cellAt k hk]
    unfold madeCells
    rw [Array.getElem?_toList, Array.getElem?_map, Array.getElem?_range]
    subst hz
    have : k % 64 < 64 := Nat.mod_lt _ (by omega)
    simp [hk, this]
  refine ⟨fun i hi k v hv => ?_, fun k hk => ?_, h2⟩
  · rw [List.length_replicate] at hi
    rw [List.getElem_replicate] at hv
    have hk : k < 64 := by
      have := (List.getElem?_eq_some_iff.1 hv).1
      simpa [bytesV] using this
    rw [hc _ (by omega)]
    unfold bytesV at hv
    rw [List.map_replicate, List.getElem?_replicate] at hv
    rw [if_pos hk] at hv
    simpa using hv
  · rw [List.length_replicate] at hk
    rw [Nat.zero_add, hc k hk]
    exact ⟨rfl, h.frozenAt k⟩
end Se
end Go.Proofs.Yteiniahikhiadaa

namespace Go.Proofs.Yteiniahikhiadaa
open Go.RowKit Go.Maps
namespace Se

theorem keyedI : Keyed Try.prog 3 := int_keyed Try.underlying3
theorem keyI {k : Int} (h0 : -9223372036854775808 ≤ k) (h1 : k ≤ 9223372036854775807) : keyOf Try.prog 3 (.int .i64 k) = some (intK.lit k) :=
  keyOf_int_mk Try.underlying3 (WalkArith.wf_i64 (by omega))
theorem wpList_look_ok_i {κ : Type} [DecidableEq κ] {K : KeyK κ} {P : Program} {w : World} {b : Nat} {m : List (κ × Value)} {ops : Array Oper} {rest : List Oper} {o : Oper} {a : Act} {Q : Exit → Act → World → Prop} (hg : o.guard = none) (x y : Operand) (tm : TypeId) (hop : o.op = Op.lookup tm x y true) (t e : TypeId) (KK : Keyed P t) (ht : P.underlying tm = some (.map t e))
    (hm : a.eval x = .map (some b)) (h : GMap K w P t b m) {z : Value} (hz : (zeroValue e).run P w = .ok z w) (key : Value) (k : κ) (hx : a.eval y = key) (hkey : keyOf P t key = some (K.lit k))
    (r : Value) (c : Bool) (hr : (mGet m k).getD z = r) (hc : (mGet m k).isSome = c) (hK : wpList P ops Q rest (a.put o.dst (.tuple #[r, .bool c])) w) :
    wpList P ops Q (o :: rest) a w := by
  refine wpList_plain hg fun K' hK' => ?_
  have hrun := h.look_ok KK ht hz hkey
  rw [hr, hc] at hrun
  unfold Oper.wp
  simp [execOp, hop, hm, hx, hrun, Result.andThen]
  exact hK' _ _ hK
/-- the keys that came are S -/
def leftI (m : List (Int × Value)) (S : List Int) (z : Lit) : Bool := Maps.has (DataW.map (mEs intK m)) z && S.all fun k => !z.sameKey (intK.lit k)
theorem leftI_nil (m : List (Int × Value)) : leftI m [] = Maps.has (DataW.map (mEs intK m)) := by
  funext z
  simp [leftI]
theorem leftI_snoc (m : List (Int × Value)) (S : List Int) (k : Int) : (fun z => leftI m S z && !z.sameKey (intK.lit k)) = leftI m (S ++ [k]) := by
  funext z
  simp only [leftI, List.all_append, List.all_cons, List.all_nil, Bool.and_true, Bool.and_assoc]
theorem leftI_lit (m : List (Int × Value)) (S : List Int) (k : Int) : leftI m S (intK.lit k) = ((mGet m k).isSome && !S.contains k) := by
  unfold leftI
  rw [mEs_has]
  congr 1
  rw [Bool.eq_iff_iff]
  simp only [List.all_eq_true, Bool.not_eq_true', intK.same, decide_eq_false_iff_not, List.contains_eq_mem]
  constructor
  · intro h hk
    exact h k hk rfl
  · intro h x hx e
    subst e
    exact h hx
/-- the range under way: the iterator's block r; S: what came -/
def Rng (P : Program) (t : TypeId) (w : World) (b r : Nat) (m : List (Int × Value)) (S : List Int) (cnt : Nat) : Prop := w.ranges (H := Value) P t hold b r m.length (.map (mEs intK m)) (leftI m S) cnt
section
variable {P : Program} {t : TypeId} {w w' : World} {b r : Nat} {m : List (Int × Value)} {S : List Int} {cnt : Nat} {ops : Array Oper} {rest : List Oper} {o : Oper} {a : Act} {Q : Exit → Act → World → Prop}
theorem Rng.kept {row : Option Nat} (h : Rng P t w b r m S cnt) (hg : w.grownBy w' row) (hb : some b ≠ row) (hr : some r ≠ row) : Rng P t w' b r m S cnt := World.ranges.kept h hg hb hr
theorem Rng.map (h : Rng P t w b r m S cnt) : GMap intK w P t b m := World.ranges.owns h
theorem Rng.ne (h : Rng P t w b r m S cnt) : r ≠ b := World.ranges.ne h
theorem Rng.lt (h : Rng P t w b r m S cnt) : r < w.heap.size := World.ranges.lt h
theorem wpList_range_g (hg : o.guard = none) (x : Operand) (tm : TypeId) (hop : o.op = Op.range tm x) (e : TypeId) (KK : Keyed P t) (ht : P.underlying tm = some (.map t e)) (hm : a.eval x = .map (some b)) (h : GMap intK w P t b m)
    (hK : ∀ w', Rng P t w' b w.heap.size m [] (Maps.size (DataW.map (mEs intK m))) → w.grownBy w' none → w'.heap.size = w.heap.size + 1 → wpList P ops Q rest (a.put o.dst (.pointer (some ⟨w.heap.size, 0, none⟩))) w') :
    wpList P ops Q (o :: rest) a w :=
  wpList_range_own (H := Value) w hg x tm hop t e KK ht hold b m.length (.map (mEs intK m)) hm h fun w' h1 h2 h3 => hK w' (by unfold Rng; rw [leftI_nil]; exact h1) h2 h3
theorem wpList_next_g (hg : o.guard = none) (it : Operand) (hop : o.op = Op.next it false) (KK : Keyed P t) (hk : P.underlying t = some (.int .i64)) (hit : a.eval it = .pointer (some ⟨r, 0, none⟩)) (h : Rng P t w b r m S cnt)
    (hDone : (∀ k, (mGet m k).isSome = true → k ∈ S) → wpList P ops Q rest (a.put o.dst (.tuple #[.bool false])) w)
    (hMore : ∀ (k : Int) (v : Value) (w' : World) (cnt' : Nat), mGet m k = some v → k ∉ S → Rng P t w' b r m (S ++ [k]) cnt' → cnt' < cnt → w.grownBy w' (some r) → w'.heap.size = w.heap.size →
      (Instr.entry (.pointer (some ⟨r, 0, none⟩))).run P w' = .ok (.tuple #[.int .i64 k, v]) w' → wpList P ops Q rest (a.put o.dst (.tuple #[.bool true, .int .i64 k, v])) w') :
    wpList P ops Q (o :: rest) a w := by
  refine wpList_next_ranges (H := Value) (α := Int) (β := Value) w hg it hop t KK hold (Value.int .i64) id (fun key kl hkey => by obtain ⟨x, rfl, _⟩ := Maps.keyOf_int_inv hk hkey; exact ⟨x, rfl⟩) (fun v y _ => ⟨v, rfl⟩) b r m.length _ (leftI m S) cnt hit h (fun _ hl => hDone fun k hs => ?_) (fun x c kl y w' cnt' hkey hlk hv hat hrg hlt hgr hsz hen => ?_)
  · have h1 := hl (intK.lit k)
    rw [leftI_lit, hs] at h1
    simpa using h1
  · obtain ⟨x', ex, rfl, -⟩ := Maps.keyOf_int_inv hk hkey
    cases ex
    change leftI m S (intK.lit x) = true at hlk
    rw [leftI_lit] at hlk
    simp only [Bool.and_eq_true, Bool.not_eq_true', List.contains_eq_mem, decide_eq_false_iff_not] at hlk
    obtain ⟨v0, hv0⟩ := Option.isSome_iff_exists.1 hlk.1
    have e : v0 = c := by
      have h1 := hat (.held undef)
      change (DataW.map (mEs intK m)).atKey (intK.lit x) (.held undef) = y.1 at h1
      rw [mEs_get, hv0] at h1
      simp only [hold, id, Option.some.injEq] at hv
      rw [← hv] at h1
      simpa using h1
    subst e
    refine hMore x v0 w' cnt' hv0 hlk.2 ?_ hlt hgr hsz hen
    unfold Rng
    rw [← leftI_snoc]
    exact hrg
end
end Se
end Go.Proofs.Yteiniahikhiadaa

namespace Go.Proofs.Yteiniahikhiadaa
open Go.RowKit Go.Maps Go.ChangeMaps
theorem GMap.clear {κ : Type} [DecidableEq κ] {K : KeyK κ} {w : World} {P : Program} {t : TypeId} {b : Nat} {m : List (κ × Value)} {tm e : TypeId} (h : GMap K w P t b m) (ht : P.underlying tm = some (.map t e)) (ty : TypeId) :
    ∃ w', (Builtin.clear_ #[tm] ty #[.map (some b)]).run P w = .ok (.tuple #[]) w' ∧ GMap K w' P t b [] ∧ w.grownBy w' (some b) := by
  obtain ⟨es, clock, hb, F, hs, hD⟩ := h
  refine ⟨setBlock w b (.map #[] clock), ?_, ⟨#[], clock, heap_setBlock_same hb _, ⟨by simp, MapKept.stamped_empty clock, by simp⟩, by simp, by simp [mEs]⟩, World.mapTurned.grown ⟨es, clock, #[], clock, hb, rfl⟩⟩
  simp [Builtin.clear_, run_underlying ht, MapKept.run_getObj_map hb, MapKept.run_setObj_map _ hb, Result.andThen, setBlock]
end Go.Proofs.Yteiniahikhiadaa

namespace Go.Proofs.Yteiniahikhiadaa
open Go.RowKit Go.Maps
namespace Se
open Ce

def devC (D : Dv) (sb mb : Nat) : Array Value := #[.slice (some ⟨sb, 0, none⟩) D.sure.length D.sure.length, .map (some mb), .bool D.stops, .int .i64 D.left, .int .i64 D.wr, .int .i64 D.fl]
/-- a device of the program's: its block d, its sectors in sb, its map in mb -/
structure DvAt (w : World) (base d sb mb : Nat) (D : Dv) : Prop where
  ob : Ob w d 86 (devC D sb mb)
  sure : SureAt w sb D.sure
  map : GMap intK w Try.prog 3 mb (bm D.dm)
  ok : OkD D
  ne : d ≠ sb ∧ d ≠ mb ∧ sb ≠ mb
  lo : base ≤ d ∧ base ≤ sb ∧ base ≤ mb
  len : 0 < D.sure.length ∧ D.sure.length ≤ 16384
theorem DvAt.kept {w w' : World} {base d sb mb : Nat} {D : Dv} {Fr : Nat → Prop} (h : DvAt w base d sb mb D) (hk : Kept Fr w w') (hd : Fr d) (hs : Fr sb) (hm : Fr mb) : DvAt w' base d sb mb D := by
  refine ⟨hk.ob h.ob hd, h.sure.kept (hk.block sb hs) hk.size, ?_, h.ok, h.ne, h.lo, h.len⟩
  obtain ⟨es, clock, h1, F, h2, e⟩ := h.map
  exact ⟨es, clock, (hk.block mb hm).trans h1, F, h2, e⟩
theorem DvAt.same {w w' : World} {base d sb mb : Nat} {D : Dv} (h : DvAt w base d sb mb D) (hb : Below w.heap.size w w') : DvAt w' base d sb mb D :=
  h.kept (Kept.of_below hb (Fr := fun i => i < w.heap.size) fun _ hi => hi) h.ob.lt h.sure.lt h.map.lt
theorem blk_info : (Try.prog.info? 102).map (fun i => (i.zero, i.size, i.bytes)) = some (some (.agg (Array.replicate 64 (.int .u8 0))), 64, 64) := by kernel_rfl

set_option maxRecDepth 100000 in
theorem new_bad (n : Int) (w : World) (h : n < 1 ∨ 16384 < n) :
    Calls Try.prog 14 #[.int .i64 n] w fun e w' => e = .returned (.tuple #[.pointer none, .int .i64 1]) ∧ w = w' := by
  go_enter Try.func14, Try.ntmps14
  rcases Int.lt_or_le n 1 with h1 | h1
  · have hd : decide (n < 1) = true := by simpa using h1
    clear h
    go_wp2
    go_ret2
    exact ⟨rfl, rfl⟩
  · have hd : decide (n < 1) = false := by simp; omega
    have hd2 : decide (n > 16384) = true := by simp; omega
    clear h
    go_wp2
    go_ret2
    exact ⟨rfl, rfl⟩
set_option maxRecDepth 100000 in
theorem new_calls (n : Nat) (w : World) (h1 : 1 ≤ n) (h2 : n ≤ 16384) :
    Calls Try.prog 14 #[.int .i64 n] w fun e w' => (∃ d sb mb, e = .returned (.tuple #[.pointer (some ⟨d, 0, none⟩), .int .i64 0]) ∧ DvAt w' w.heap.size d sb mb (newD n)) ∧ Below w.heap.size w w' := by
  have hmm := @run_makeMap Try.prog
  obtain ⟨i0, hi0, hz0⟩ := Option.map_eq_some_iff.1 blk_info
  simp only [Prod.mk.injEq] at hz0
  obtain ⟨hz0, hz1, hz2⟩ := hz0
  have hd : decide ((n : Int) < 1) = false := by simp; omega
  have hd2 : decide ((n : Int) > 16384) = false := by simp; omega
  go_enter Try.func14, Try.ntmps14
  obtain ⟨w1, hmk, hv1, hg1⟩ := run_make_full (P := Try.prog) w w.heap.size 78 102 i0 _ 64 Try.underlying78 hi0 hz0 hz1 .i64 .i64 n (by rw [hz2]; omega) (by unfold maxLen; omega) (Nat.le_refl _)
  have hsl := SureAt.made (by rfl) hv1 h1
  have hs1 := hg1.size
  clear hz0 hz1 hz2
  have hb1 := (Below.refl w.heap.size w).grown hg1 (Nat.le_refl _) (fun k e => by cases e)
  go_wp2
  go_ret2
  have ha1 := hb1.alloc hb1.size (.map #[] 0)
  have ha2 := ha1.alloc ha1.size (.cells (devC (newD n) w.heap.size w1.heap.size) 86)
  have hnl : (newD n).sure.length = n := by simp [newD]
  have hC : devC (newD n) w.heap.size w1.heap.size = #[.slice (some ⟨w.heap.size, 0, none⟩) n n, .map (some w1.heap.size), .bool false, .int .i64 0, .int .i64 0, .int .i64 0] := by unfold devC; rw [hnl]; rfl
  rw [hC] at ha2
  refine ⟨⟨w1.heap.size + 1, w.heap.size, w1.heap.size, rfl, ?_⟩, ha2⟩
  have hob := Ob.new (w1.alloc (.map #[] 0)) 86 (devC (newD n) w.heap.size w1.heap.size)
  rw [World.size_alloc, hC] at hob
  have hsb := hsl.lt
  refine ⟨by rw [hC]; exact hob, hsl.kept ?_ (by simp; omega), ?_, OkD.new n, by omega, by omega, by rw [hnl]; omega⟩
  · rw [heap_alloc_old _ _ (by simp; omega), heap_alloc_old _ _ hsb]
  · exact (GMap.made (K := intK) w1 Try.prog 3).kept (World.grownBy_alloc _ _ none) (by simp)
end Se
end Go.Proofs.Yteiniahikhiadaa

namespace Go.Proofs.Yteiniahikhiadaa
open Go.RowKit Go.Maps
namespace Se
open Ce

theorem Ob.dev {w : World} {d sb mb : Nat} {D : Dv} (h : Ob w d 86 (devC D sb mb)) :
    w.cell? ⟨d, 0, none⟩ = some (.slice (some ⟨sb, 0, none⟩) D.sure.length D.sure.length) ∧ w.cell? ⟨d, 1, none⟩ = some (.map (some mb)) ∧ w.cell? ⟨d, 2, none⟩ = some (.bool D.stops) ∧ w.cell? ⟨d, 3, none⟩ = some (.int .i64 D.left) ∧ w.cell? ⟨d, 4, none⟩ = some (.int .i64 D.wr) ∧ w.cell? ⟨d, 5, none⟩ = some (.int .i64 D.fl) :=
  ⟨h.cell (j := 0) rfl, h.cell (j := 1) rfl, h.cell (j := 2) rfl, h.cell (j := 3) rfl, h.cell (j := 4) rfl, h.cell (j := 5) rfl⟩
theorem made_calls (d mb : Nat) (w : World) (h : w.cell? ⟨d, 1, none⟩ = some (.map (some mb))) :
    Calls Try.prog 67 #[.pointer (some ⟨d, 0, none⟩)] w fun e w' => e = .returned (.bool true) ∧ w = w' := by
  have hn := fun (w : World) (r : Option Nat) => run_neq_map_nil (P := Try.prog) w 79 _ _ r Try.underlying79
  go_enter Try.func67, Try.ntmps67
  go_wp2
  go_ret
  exact ⟨rfl, rfl⟩
theorem made_nil (w : World) :
    Calls Try.prog 67 #[.pointer none] w fun e w' => e = .returned (.bool false) ∧ w = w' := by
  go_enter Try.func67, Try.ntmps67
  go_wp2
  go_ret
  exact ⟨rfl, rfl⟩
section
variable {w : World} {base d sb mb : Nat} {D : Dv}
theorem is_calls (h : DvAt w base d sb mb D) (i : Int) :
    Calls Try.prog 69 #[.pointer (some ⟨d, 0, none⟩), .int .i64 i] w fun e w' => e = .returned (.bool (decide (0 ≤ i ∧ i < D.sure.length))) ∧ w = w' := by
  obtain ⟨y0, -⟩ := Ob.dev h.ob
  generalize D.sure.length = n at *
  clear h
  go_enter Try.func69, Try.ntmps69
  by_cases h0 : 0 ≤ i
  · have hd : decide (i ≥ 0) = true := by simpa using h0
    have he : decide (i < (n : Int)) = decide (0 ≤ i ∧ i < (n : Int)) := by simp [h0]
    rw [← he]
    clear he h0
    go_wp2
    go_ret
    exact ⟨rfl, rfl⟩
  · have hd : decide (i ≥ 0) = false := by simpa using h0
    have he : decide (0 ≤ i ∧ i < (n : Int)) = false := by simp [h0]
    rw [he]
    clear he h0
    go_wp2
    go_ret
    exact ⟨rfl, rfl⟩
theorem len_calls (h : DvAt w base d sb mb D) :
    Calls Try.prog 43 #[.pointer (some ⟨d, 0, none⟩)] w fun e w' => e = .returned (.int .i64 D.sure.length) ∧ w = w' := by
  obtain ⟨y0, y1, -⟩ := Ob.dev h.ob
  have cM := Lib.hid (made_calls d mb w y1)
  generalize D.sure.length = n at *
  clear h
  go_enter Try.func43, Try.ntmps43
  go_wp2_with fail
  refine cM.out.mono ?_
  rintro e W ⟨rfl, rfl⟩
  go_wp2
  go_ret
  exact ⟨rfl, rfl⟩
theorem len_nil (w : World) : Calls Try.prog 43 #[.pointer none] w fun e w' => e = .returned (.int .i64 0) ∧ w = w' := by
  have cM := Lib.hid (made_nil w)
  go_enter Try.func43, Try.ntmps43
  go_wp2_with fail
  refine cM.out.mono ?_
  rintro e W ⟨rfl, rfl⟩
  go_wp2
  go_ret
  exact ⟨rfl, rfl⟩
theorem off_calls (h : DvAt w base d sb mb D) :
    Calls Try.prog 42 #[.pointer (some ⟨d, 0, none⟩)] w fun e w' => e = .returned (.bool (offD D)) ∧ w = w' := by
  obtain ⟨y0, y1, y2, y3, -⟩ := Ob.dev h.ob
  have cM := Lib.hid (made_calls d mb w y1)
  have HO := Lib.hid (show offD D = (D.stops && decide (D.left ≤ 0)) from rfl)
  generalize offD D = O at *
  generalize D.stops = S at *
  generalize D.left = L at *
  clear h
  go_enter Try.func42, Try.ntmps42
  go_wp2_with fail
  refine cM.out.mono ?_
  rintro e W ⟨rfl, rfl⟩
  cases S with
  | true =>
    go_wp2
    go_ret
    exact ⟨by rw [HO.out]; rfl, rfl⟩
  | false =>
    go_wp2
    go_ret
    exact ⟨by rw [HO.out]; rfl, rfl⟩
theorem off_nil (w : World) : Calls Try.prog 42 #[.pointer none] w fun e w' => e = .returned (.bool true) ∧ w = w' := by
  have cM := Lib.hid (made_nil w)
  go_enter Try.func42, Try.ntmps42
  go_wp2_with fail
  refine cM.out.mono ?_
  rintro e W ⟨rfl, rfl⟩
  go_wp2
  go_ret
  exact ⟨rfl, rfl⟩
end
end Se
end Go.Proofs.Yteiniahikhiadaa
