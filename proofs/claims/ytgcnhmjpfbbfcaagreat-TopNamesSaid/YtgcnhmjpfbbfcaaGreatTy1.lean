/-
  part of the proof of TopNames.
-/
import Derived.Test.YtgcnhmjpfbbfcaaGreatRows
import Derived.WalkKit
import Derived.WalkSpells
import Derived.WalkLawsBesides
import Derived.Maps.AppendAt
import Derived.OwnWalkIn
import Derived.Deep.Draws
import Derived.Lib.Hide
import Derived.Maps.OwnOps
import Derived.Maps.OwnSet
import Derived.Maps.Ext
import Derived.Maps.OwnIn
import Derived.Deep.RegionLaw
import Derived.Laws.OwnMore
import Derived.Lib.Zigzag
set_option linter.unusedVariables false
set_option linter.unusedSimpArgs false
set_option maxRecDepth 100000
set_option maxHeartbeats 8000000
namespace Go.Proofs.YtgcnhmjpfbbfcaaGreat
theorem zzA {α : Type _} {l : List α} {i : Nat} {a : α} : l.toArray.setIfInBounds i a = (l.set i a).toArray := List.setIfInBounds_toArray ..
theorem zzB {α : Type _} {a b : α} {l : List α} {n : Nat} : (a :: l).set (n + 1) b = a :: l.set n b := rfl
theorem zzC {α : Type _} {a b : α} {l : List α} : (a :: l).set 0 b = b :: l := rfl
theorem zzD {α : Type _} {x d : α} {xs : List α} : List.getD (x :: xs) 0 d = x := rfl
theorem zzE {α : Type _} {x d : α} {xs : List α} {n : Nat} : List.getD (x :: xs) (n + 1) d = List.getD xs n d := rfl
theorem zzF {α : Type _} {a : α} {l : List α} : (a :: l).eraseIdx 0 = l := rfl
theorem zzG {α : Type _} {a : α} {l : List α} {i : Nat} : (a :: l).eraseIdx (i + 1) = a :: l.eraseIdx i := rfl
theorem zzH {α : Type _} {a : α} {l m : List α} : (a :: l) ++ m = a :: (l ++ m) := rfl
theorem zzI {α : Type _} (l : List α) : [] ++ l = l := rfl
theorem zzJ {α : Type _} {l : List α} {i : Nat} : l.toArray[i]? = l[i]? := List.getElem?_toArray
theorem zzK {α : Type _} {a : α} {l : List α} {i : Nat} : (a :: l)[i + 1]? = l[i]? := List.getElem?_cons_succ
theorem zzL {α : Type _} {a : α} {l : List α} : (a :: l)[0]? = some a := List.getElem?_cons_zero
abbrev vO : Value := .int .i64 0
abbrev vN : Value := .slice none 0 0
abbrev vE : Value := .string ⟨#[]⟩
abbrev vI (n : Int) : Value := .int .i64 n
theorem hdd {p : Prop} (h : p) : Go.RowKit.Hid p := Lib.hid h
theorem inf3 {o : Option TypeInfo} {z : Option Value} {s b : Nat} (h : o.map (fun i => (i.zero, i.size, i.bytes)) = some (z, s, b)) : ∃ i, o = some i ∧ i.zero = z ∧ i.size = s ∧ i.bytes = b := by
 obtain ⟨i, h1, h2⟩ := Option.map_eq_some_iff.1 h
 simp only [Prod.mk.injEq] at h2
 exact ⟨i, h1, h2⟩
theorem zzM {α β : Type _} {f : α → β} {x : α} : (some x).map f = some (f x) := rfl
section
open Go.RowKit
structure Sl (w : World) (lo B size : Nat) (v : Value) (n : Nat) (xs : List Value) : Prop where
 len : xs.length = n * size
 at_ : ∃ A c, v = .slice A n c ∧ n ≤ c ∧ c ≤ maxLen ∧ (0 < n → ∃ b o, A = some ⟨b, o, none⟩ ∧ lo ≤ b ∧ b < B ∧ ∀ j, j < n * size → w.cell? ⟨b, o + j, none⟩ = xs[j]?)
section
variable {w w' : World} {lo lo' B B' size n : Nat} {v : Value} {xs : List Value}
theorem Sl.keep (h : Sl w lo B size v n xs) (hk : ∀ b o, lo ≤ b → b < B → w'.cell? ⟨b, o, none⟩ = w.cell? ⟨b, o, none⟩) : Sl w' lo B size v n xs := by
 refine ⟨h.len, ?_⟩; obtain ⟨A, c, e, h1, h2, h3⟩ := h.at_; refine ⟨A, c, e, h1, h2, fun hn => ?_⟩; obtain ⟨b, o, ea, hl, hb2, hc⟩ := h3 hn; exact ⟨b, o, ea, hl, hb2, fun j hj => (hk b _ hl hb2).trans (hc j hj)⟩
theorem Sl.wide (h : Sl w lo B size v n xs) (hl : lo' ≤ lo) (hB : B ≤ B') : Sl w lo' B' size v n xs := by
 refine ⟨h.len, ?_⟩; obtain ⟨A, c, e, h1, h2, h3⟩ := h.at_; refine ⟨A, c, e, h1, h2, fun hn => ?_⟩; obtain ⟨b, o, ea, hl', hb2, hc⟩ := h3 hn; exact ⟨b, o, ea, by omega, by omega, hc⟩
theorem Sl.below (h : Sl w lo B size v n xs) (hb : Below B w w') : Sl w' lo B size v n xs := h.keep fun b o _ h2 => hb.cell (p := ⟨b, o, none⟩) h2
theorem Sl.mono (h : Sl w lo B size v n xs) (hb : Below B w w') (hB : B ≤ B') : Sl w' lo B' size v n xs := (h.below hb).wide (Nat.le_refl _) hB
theorem Sl.grown {row : Option Nat} (h : Sl w lo B size v n xs) (hg : w.grownBy w' row) (hB : B ≤ w.heap.size) (hr : ∀ k, row = some k → k < lo ∨ B ≤ k) : Sl w' lo B size v n xs :=
 h.keep fun b o h1 h2 => World.cell?_of_block (w := w) (hg.block b (by omega) (fun e => by have := hr b e.symm; omega))
theorem Sl.nil (w : World) (lo B size : Nat) : Sl w lo B size (.slice none 0 0) 0 [] := ⟨by simp, none, 0, rfl, by omega, by unfold maxLen; omega, fun h => by omega⟩
theorem Sl.of_own {e : TypeId} (h : w.ownsRow lo e size v n xs) : Sl w lo w.heap.size size v n xs := by
 refine ⟨h.1, ?_⟩; rcases h.2 with ⟨rfl, rfl⟩ | ⟨g, cap, cur, rfl, hbg, hg, hnc, hcm, hcs, htake⟩
 · exact ⟨none, 0, rfl, by omega, by unfold maxLen; omega, fun h => by omega⟩
 · refine ⟨_, cap, rfl, hnc, hcm, fun _ => ⟨g, 0, rfl, hbg, (Array.getElem?_eq_some_iff.1 hg).1, fun j hj => ?_⟩⟩
   rw [← htake, List.getElem?_take, if_pos hj, Array.getElem?_toList]; simp [World.cell?, hg]
end
theorem run_append_sl {P : Program} (w : World) (base : Nat) (t ty e : TypeId) (i : TypeInfo) (z : Value) (size bytes : Nat) (ht : P.underlying t = some (.slice e)) (hi : P.info? e = some i) (hz : i.zero = some z)
   (hsize : i.size = size) (hby : i.bytes = bytes) (hzs : z.cells.size = size) (hsz : 0 < size)
   (v : Value) (n : Nat) (xs : List Value) (hown : w.ownsRow base e size v n xs)
   (lo B : Nat) (u : Value) (m : Nat) (ys : List Value) (hu : Sl w lo B size u m ys) (h1 : ∀ y ∈ ys, y.oneCell' = true)
   (h63 : n + m ≤ maxLen) (hbytes : (n + m) * bytes ≤ 140737488355328) (hbase : base ≤ w.heap.size) :
   ∃ v' w', (Builtin.append_ #[t, t] ty #[v, u]).run P w = .ok v' w' ∧ w'.ownsRow base e size v' (n + m) (xs ++ ys) ∧ w.grownBy w' v.ownBlock ∧
     (v'.ownBlock = v.ownBlock ∨ v'.ownBlock = some w.heap.size) := by
 obtain ⟨A, c, rfl, hc1, hc2, hc3⟩ := hu.at_; rcases Nat.eq_zero_or_pos m with hm | hm
 · subst hm
   obtain rfl : ys = [] := List.eq_nil_of_length_eq_zero (by simpa using hu.len); rcases A with _ | ad
   · refine ⟨v, w, ?_, by simpa using hown, World.grownBy.refl w _, .inl rfl⟩
     rcases hown.2 with ⟨rfl, rfl⟩ | ⟨g, cap, cur, rfl, _, _, hnc, _⟩
     · simp [Builtin.append_, run_underlying ht, sizeOf, typeInfo, hi, Builtin.lenOf, Builtin.firstCells]
     · simp [Builtin.append_, run_underlying ht, sizeOf, typeInfo, hi, Builtin.lenOf, Builtin.firstCells, hnc, storeCells]
   · obtain ⟨v', w', q1, q2, q3, _, q5⟩ := run_append_own_at (P := P) w base t ty e i z size bytes ht hi hz hsize hby hzs hsz v n xs hown ad 0 c [] (by simp) (by simp) (by simp) h63 hbytes hbase
     exact ⟨v', w', q1, q2, q3, q5⟩
 · obtain ⟨b, o, rfl, _, _, hc⟩ := hc3 hm
   obtain ⟨v', w', q1, q2, q3, _, q5⟩ := run_append_own_at (P := P) w base t ty e i z size bytes ht hi hz hsize hby hzs hsz v n xs hown ⟨b, o, none⟩ m c ys hu.len
     (fun j y hy => by
       have hj : j < ys.length := (List.getElem?_eq_some_iff.1 hy).1; have e1 : (⟨b, o, none⟩ : Addr).add j = ⟨b, o + j, none⟩ := by unfold Addr.add; split <;> simp_all
       rw [e1, hc j (by rw [← hu.len]; exact hj), hy]) h1 h63 hbytes hbase
   exact ⟨v', w', q1, q2, q3, q5⟩
section
variable {P : Program} (w : World) {ops : Array Oper} {rest : List Oper} {o : Oper} {a : Act} {Q : Exit → Act → World → Prop}
theorem wpList_append_sl (hgd : o.guard = none) (s x : Operand) (t : TypeId)
   (ho : o.op = .call { callee := .builtin .append, args := #[s, x], argTypes := #[t, t] })
   (base : Nat) (e : TypeId) (i : TypeInfo) (z : Value) (size bytes : Nat) (ht : P.underlying t = some (.slice e)) (hi : P.info? e = some i) (hz : i.zero = some z)
   (hsize : i.size = size) (hby : i.bytes = bytes) (hzs : z.cells.size = size) (hsz : 0 < size)
   (v : Value) (n : Nat) (xs : List Value) (hs : a.eval s = v) (hown : w.ownsRow base e size v n xs)
   (lo B : Nat) (u : Value) (m : Nat) (ys : List Value) (hx : a.eval x = u) (hu : Sl w lo B size u m ys) (h1 : ∀ y ∈ ys, y.oneCell' = true)
   (h63 : n + m ≤ maxLen) (hbytes : (n + m) * bytes ≤ 140737488355328) (hbase : base ≤ w.heap.size)
   (h : ∀ v' w', w'.ownsRow base e size v' (n + m) (xs ++ ys) → w.grownBy w' v.ownBlock → (v'.ownBlock = v.ownBlock ∨ v'.ownBlock = some w.heap.size) → wpList P ops Q rest (a.put o.dst v') w') :
   wpList P ops Q (o :: rest) a w :=
 wpList_plain hgd fun K hK => by
   obtain ⟨v', w', hrun, h2, h3, h4⟩ := run_append_sl (P := P) w base t o.type e i z size bytes ht hi hz hsize hby hzs hsz v n xs hown lo B u m ys hu h1 h63 hbytes hbase; unfold Oper.wp execOp; simp only [ho, resolve, invoke, builtin, Sem.run_bind, Sem.run_pure, Result.andThen_ok, List.map_toArray, List.map_cons, List.map_nil, hs, hx, hrun]; exact hK _ _ (h v' w' h2 h3 h4)
end
def ints (l : List Int) : List Value := l.map (Value.int .i64)
section
variable {w w' : World} {lo lo' B B' : Nat} {v : Value} {l : List Int}
end
theorem Sl.new (w : World) (cs : Array Value) (t : TypeId) {size n : Nat} (h : cs.size = n * size) (hn : n ≤ maxLen) :
   Sl (w.alloc (.cells cs t)) w.heap.size (w.heap.size + 1) size (.slice (some ⟨w.heap.size, 0, none⟩) n n) n cs.toList := by
 refine ⟨by simpa using h, _, n, rfl, Nat.le_refl _, hn, fun _ => ⟨w.heap.size, 0, rfl, Nat.le_refl _, by omega, fun j _ => ?_⟩⟩; unfold World.cell?; rw [heap_alloc_new]; simp
theorem only_of_below {a w : World} (h : Below a.heap.size a w) (row : Option Nat) : a.grownBy w row := ⟨h.os, h.tape, h.output, h.size, fun i hi _ => h.block i hi⟩
theorem ownsRow_below {w w' : World} {lo : Nat} {e size n} {v : Value} {xs : List Value} (h : w.ownsRow lo e size v n xs) (hb : Below w.heap.size w w') : w'.ownsRow lo e size v n xs :=
 h.kept (only_of_below hb none) (by cases hv : v.ownBlock <;> simp)
theorem ret1 {a b : Value} (h : a = b) : Ending.returned a = .returned b := by rw [h]
theorem num {a b : Int} (h : a = b) : Value.int .i64 a = .int .i64 b := by rw [h]
theorem boo {a b : Bool} (h : a = b) : Value.bool a = .bool b := by rw [h]
end
section
open Go.RowKit Go.Maps
structure KeyK (κ : Type) [DecidableEq κ] where
 lit : κ → Lit
 lt : κ → κ → Bool
 before : ∀ a b, (lit a).before (lit b) = lt a b
 same : ∀ a b, (lit a).sameKey (lit b) = decide (a = b)
 isKey : ∀ a, WideAt.IsKeyLit (lit a)
def intK : KeyK Int where
 lit := Lit.int .i64
 lt a b := decide (a < b)
 before a b := rfl
 same a b := by simp [Lit.sameKey]
 isKey _ := trivial
def strK : KeyK (List UInt8) where
 lit := Lit.string
 lt a b := bytesBefore a b
 before a b := rfl
 same a b := by
   simp only [Lit.sameKey]; rw [Bool.eq_iff_iff]; simp
 isKey _ := trivial
section
variable {κ : Type} [DecidableEq κ] (K : KeyK κ)
def mGet (m : List (κ × Value)) (k : κ) : Option Value := (m.find? (fun p => decide (p.1 = k))).map (·.2)
def mIns (k : κ) (v : Value) : List (κ × Value) → List (κ × Value)
 | [] => [(k, v)]
 | p :: r => if K.lt k p.1 then (k, v) :: p :: r else p :: mIns k v r
def mDel (m : List (κ × Value)) (k : κ) : List (κ × Value) := m.filter (fun p => !decide (p.1 = k))
def mPut (m : List (κ × Value)) (k : κ) (v : Value) : List (κ × Value) := mIns K k v (mDel m k)
def mEs (m : List (κ × Value)) : List (Lit × DataW Value) := m.map fun p => (K.lit p.1, .held p.2)
def hold (v : Value) : Option (DataW Value × List MemPlace) := some (.held v, [])
theorem mEs_ins (k : κ) (v : Value) (m : List (κ × Value)) : DataW.insert (K.lit k, .held v) (mEs K m) = mEs K (mIns K k v m) := by
 induction m with
 | nil => rfl
 | cons p r ih =>
   simp only [mEs, List.map_cons, DataW.insert, mIns] at ih ⊢; rw [K.before]
   split
   · simp
   · rw [ih]; simp
theorem mEs_del (k : κ) (m : List (κ × Value)) : (mEs K m).filter (fun p => !p.1.sameKey (K.lit k)) = mEs K (mDel m k) := by
 induction m with
 | nil => rfl
 | cons p r ih =>
   simp only [mEs, List.map_cons, mDel, List.filter_cons, K.same] at ih ⊢
   split <;> simp_all
theorem mEs_put (k : κ) (v : Value) (m : List (κ × Value)) : (DataW.map (mEs K m)).put (K.lit k) (.held v) = .map (mEs K (mPut K m k v)) := by
 simp only [DataW.put, mPut]; rw [mEs_del, mEs_ins]
theorem mEs_get (k : κ) (z : Value) (m : List (κ × Value)) : (DataW.map (mEs K m)).atKey (K.lit k) (.held z) = .held ((mGet m k).getD z) := by
 induction m with
 | nil => rfl
 | cons p r ih =>
   simp only [mEs, DataW.atKey, mGet, List.map_cons, List.find?_cons, K.same] at ih ⊢
   by_cases h : p.1 = k
   · simp [h]
   · simp only [h, decide_false]; exact ih
theorem mEs_has (k : κ) (m : List (κ × Value)) : Maps.has (DataW.map (mEs K m)) (K.lit k) = (mGet m k).isSome := by
 induction m with
 | nil => rfl
 | cons p r ih =>
   simp only [mEs, List.map_cons, Maps.has, mGet, List.find?_cons, List.any_cons, K.same] at ih ⊢
   by_cases h : p.1 = k <;> simp_all
def GMap (w : World) (P : Program) (t : TypeId) (b : Nat) (m : List (κ × Value)) : Prop := w.ownsMap (H := Value) P t hold b m.length (.map (mEs K m))
variable {K}
variable {w w' : World} {P : Program} {t : TypeId} {b : Nat} {m : List (κ × Value)}
theorem GMap.of {n : Nat} (h : w.ownsMap (H := Value) P t hold b n (.map (mEs K m))) : GMap K w P t b m := by
 obtain ⟨es, clock, hb, F, _, e⟩ := h; refine ⟨es, clock, hb, F, ?_, e⟩; have h1 := congrArg Maps.size e; simp [Maps.size, length_sorted, mEs] at h1; omega
theorem GMap.made (w : World) (P : Program) (t : TypeId) : GMap K (w.alloc (.map #[] 0)) P t w.heap.size [] := World.ownsMap_made w P t hold
theorem GMap.kept {row : Option Nat} (h : GMap K w P t b m) (hg : w.grownBy w' row) (hne : some b ≠ row) : GMap K w' P t b m := World.ownsMap.kept h hg hne
theorem GMap.lt (h : GMap K w P t b m) : b < w.heap.size := World.ownsMap.lt h
theorem GMap.below {B : Nat} (h : GMap K w P t b m) (hb : Below B w w') (hB : b < B) : GMap K w' P t b m := by
 obtain ⟨es, clock, h1, F, h2, e⟩ := h; exact ⟨es, clock, (hb.block b hB).trans h1, F, h2, e⟩
theorem GMap.sorted (h : GMap K w P t b m) (KK : Keyed P t) : m.Pairwise (fun p q => K.lt p.1 q.1 = true) := by
 obtain ⟨es, e, h1, _⟩ := World.ownsMap.canon h KK
 injection e with e
 subst e; simp only [mEs, List.pairwise_map, K.before] at h1; exact h1
theorem GMap.look {tm e : TypeId} (h : GMap K w P t b m) (KK : Keyed P t) (ht : P.underlying tm = some (.map t e)) {z : Value} (hz : (zeroValue e).run P w = .ok z w) {key : Value} {k : κ} (hkey : keyOf P t key = some (K.lit k)) :
   (Instr.lookup tm (.map (some b)) key false).run P w = .ok ((mGet m k).getD z) w := by
 obtain ⟨v, ps, hrun, hv⟩ := World.ownsMap.lookup h KK ht hz (zd := .held z) (zp := []) rfl hkey; rw [mEs_get] at hv; have e : v = (mGet m k).getD z := by simp only [hold, Option.some.injEq, Prod.mk.injEq, DataW.held.injEq] at hv; exact hv.1
 rw [hrun, e]
theorem GMap.look_ok {tm e : TypeId} (h : GMap K w P t b m) (KK : Keyed P t) (ht : P.underlying tm = some (.map t e)) {z : Value} (hz : (zeroValue e).run P w = .ok z w) {key : Value} {k : κ} (hkey : keyOf P t key = some (K.lit k)) :
   (Instr.lookup tm (.map (some b)) key true).run P w = .ok (.tuple #[(mGet m k).getD z, .bool (mGet m k).isSome]) w := by
 obtain ⟨v, ps, hrun, hv⟩ := World.ownsMap.look_ok h KK ht hz (zd := .held z) (zp := []) rfl hkey; rw [mEs_get] at hv; have e : v = (mGet m k).getD z := by simp only [hold, Option.some.injEq, Prod.mk.injEq, DataW.held.injEq] at hv; exact hv.1
 rw [hrun, e, mEs_has]
theorem GMap.put {tm e : TypeId} (h : GMap K w P t b m) (KK : Keyed P t) (ht : P.underlying tm = some (.map t e)) (hn : m.length < maxLen) {key val : Value} {k : κ} (hkey : keyOf P t key = some (K.lit k)) :
   ∃ w', (Instr.mapUpdate tm (.map (some b)) key val).run P w = .ok () w' ∧ GMap K w' P t b (mPut K m k val) ∧ w.grownBy w' (some b) := by
 obtain ⟨w', hrun, h1, h2⟩ := World.ownsMap.update h KK ht hn hkey (val := val) (d := .held val) (ps := []) rfl; rw [mEs_put] at h1; exact ⟨w', hrun, GMap.of h1, h2⟩
theorem GMap.del {tm e : TypeId} (h : GMap K w P t b m) (KK : Keyed P t) (ht : P.underlying tm = some (.map t e)) {key : Value} {k : κ} (hkey : keyOf P t key = some (K.lit k)) (ty : TypeId) :
   ∃ w', (Builtin.delete_ #[tm, t] ty #[.map (some b), key]).run P w = .ok (.tuple #[]) w' ∧ GMap K w' P t b (mDel m k) ∧ w.grownBy w' (some b) := by
 obtain ⟨w', hrun, h1, h2⟩ := World.ownsMap.drop h KK ht hkey ty; simp only [DataW.del] at h1; rw [mEs_del] at h1; exact ⟨w', hrun, GMap.of h1, h2.grown⟩
theorem GMap.len {tm e : TypeId} (h : GMap K w P t b m) (ht : P.underlying tm = some (.map t e)) (ty : TypeId) : (Builtin.len_ #[tm] ty #[.map (some b)]).run P w = .ok (.int .i64 m.length) w := by
 rw [World.ownsMap.len h ht ty]; simp [Maps.size, mEs]
end
section
variable {κ : Type} [DecidableEq κ] {K : KeyK κ} {P : Program} {w : World} {b : Nat} {m : List (κ × Value)} {ops : Array Oper} {rest : List Oper} {o : Oper} {a : Act} {Q : Exit → Act → World → Prop}
theorem wpList_put_g (hg : o.guard = none) (x y z : Operand) (tm : TypeId) (hop : o.op = Op.mapUpdate tm x y z) (t e : TypeId) (KK : Keyed P t) (ht : P.underlying tm = some (.map t e))
   (hm : a.eval x = .map (some b)) (h : GMap K w P t b m) (hn : m.length < maxLen) (key val : Value) (k : κ) (hx : a.eval y = key) (hv : a.eval z = val) (hkey : keyOf P t key = some (K.lit k))
   (hK : ∀ w', GMap K w' P t b (mPut K m k val) → w.grownBy w' (some b) → wpList P ops Q rest (a.put o.dst undef) w') :
   wpList P ops Q (o :: rest) a w := by
 refine wpList_plain hg fun K' hK' => ?_
 obtain ⟨w', hrun, r1, r2⟩ := h.put KK ht hn hkey (val := val); unfold Oper.wp; simp [execOp, hop, hm, hx, hv, hrun, Result.andThen]; exact hK' _ _ (hK w' r1 r2)
theorem wpList_look_g (hg : o.guard = none) (x y : Operand) (tm : TypeId) (hop : o.op = Op.lookup tm x y false) (t e : TypeId) (KK : Keyed P t) (ht : P.underlying tm = some (.map t e))
   (hm : a.eval x = .map (some b)) (h : GMap K w P t b m) {z : Value} (hz : (zeroValue e).run P w = .ok z w) (key : Value) (k : κ) (hx : a.eval y = key) (hkey : keyOf P t key = some (K.lit k))
   (r : Value) (hr : (mGet m k).getD z = r) (hK : wpList P ops Q rest (a.put o.dst r) w) :
   wpList P ops Q (o :: rest) a w := by
 refine wpList_plain hg fun K' hK' => ?_
 have hrun := h.look KK ht hz hkey; rw [hr] at hrun; unfold Oper.wp; simp [execOp, hop, hm, hx, hrun, Result.andThen]; exact hK' _ _ hK
theorem wpListIn_put_g {F : Fence} {N : Nat} (hg : o.guard = none) (x y z : Operand) (tm : TypeId) (hop : o.op = Op.mapUpdate tm x y z) (t e : TypeId) (KK : Keyed P t) (ht : P.underlying tm = some (.map t e))
   (hm : a.eval x = .map (some b)) (h : GMap K w P t b m) (hn : m.length < maxLen) (key val : Value) (k : κ) (hx : a.eval y = key) (hv : a.eval z = val) (hkey : keyOf P t key = some (K.lit k))
   (hK : ∀ w', GMap K w' P t b (mPut K m k val) → w.grownBy w' (some b) → wpListIn F N P ops Q rest (a.put o.dst undef) w') :
   wpListIn F N P ops Q (o :: rest) a w := by
 refine wpListIn_plain hg fun K' hK' => ?_
 obtain ⟨w', hrun, r1, r2⟩ := h.put KK ht hn hkey (val := val); unfold Oper.wpIn; refine ⟨by simp [Oper.about, hop], ?_⟩; rw [Oper.semAt_eq _ _ _ (by rw [hop]; intro c hc; cases hc)]; simp [execOp, hop, hm, hx, hv, hrun, Result.andThen]; exact hK' _ _ (hK w' r1 r2)
theorem wpListIn_look_g {F : Fence} {N : Nat} (hg : o.guard = none) (x y : Operand) (tm : TypeId) (hop : o.op = Op.lookup tm x y false) (t e : TypeId) (KK : Keyed P t) (ht : P.underlying tm = some (.map t e))
   (hm : a.eval x = .map (some b)) (h : GMap K w P t b m) {z : Value} (hz : (zeroValue e).run P w = .ok z w) (key : Value) (k : κ) (hx : a.eval y = key) (hkey : keyOf P t key = some (K.lit k))
   (r : Value) (hr : (mGet m k).getD z = r) (hK : wpListIn F N P ops Q rest (a.put o.dst r) w) :
   wpListIn F N P ops Q (o :: rest) a w := by
 refine wpListIn_plain hg fun K' hK' => ?_
 have hrun := h.look KK ht hz hkey; rw [hr] at hrun; unfold Oper.wpIn; refine ⟨by simp [Oper.about, hop], ?_⟩; rw [Oper.semAt_eq _ _ _ (by rw [hop]; intro c hc; cases hc)]; simp [execOp, hop, hm, hx, hrun, Result.andThen]; exact hK' _ _ hK
end
section
variable {κ : Type} [DecidableEq κ] {K : KeyK κ}
theorem mGet_cons (p : κ × Value) (m : List (κ × Value)) (k : κ) : mGet (p :: m) k = if p.1 = k then some p.2 else mGet m k := by
 unfold mGet; rw [List.find?_cons]
 by_cases h : p.1 = k <;> simp [h]
end
end
namespace Ce
section
open Go.RowKit
def be (l : List UInt8) : Nat := l.foldl (fun u c => u * 256 + c.toNat) 0
theorem be_snoc (l : List UInt8) (c : UInt8) : be (l ++ [c]) = be l * 256 + c.toNat := by simp [be]
theorem be_lt : ∀ (n : Nat) (l : List UInt8), l.length = n → be l < 256 ^ n
 | 0, l, h => by rw [List.eq_nil_of_length_eq_zero h]; simp [be]
 | n + 1, l, h => by
   have hne : l ≠ [] := fun e => by rw [e] at h; simp at h
   obtain ⟨r, c, rfl⟩ : ∃ r c, l = r ++ [c] := ⟨l.dropLast, l.getLast hne, (List.dropLast_concat_getLast hne).symm⟩; have ih := be_lt n r (by simpa using h); rw [be_snoc, Nat.pow_succ]; have := c.toNat_lt; omega
def digF : Nat → Nat → List UInt8
 | 0, _ => []
 | k + 1, u => if u = 0 then [] else digF k (u / 256) ++ [UInt8.ofNat (u % 256)]
def dig (u : Nat) : List UInt8 := digF 8 u
theorem byte_toNat (u : Nat) : (UInt8.ofNat (u % 256)).toNat = u % 256 := by simp
theorem be_digF : ∀ (k u : Nat), u < 256 ^ k → be (digF k u) = u
 | 0, u, h => by simp at h; subst h; rfl
 | k + 1, u, h => by
   unfold digF
   split
   · rename_i h0; rw [h0]; rfl
   · rw [be_snoc, be_digF k (u / 256) (by rw [Nat.pow_succ] at h; exact Nat.div_lt_of_lt_mul (by omega)), byte_toNat]
     omega
theorem digF_more : ∀ (k u : Nat), u < 256 ^ k → digF (k + 1) u = digF k u
 | 0, u, h => by simp at h; subst h; rfl
 | k + 1, u, h => by
   rw [digF]
   by_cases h0 : u = 0
   · rw [if_pos h0, digF, if_pos h0]
   · rw [if_neg h0, digF_more k (u / 256) (by rw [Nat.pow_succ] at h; exact Nat.div_lt_of_lt_mul (by omega)), digF, if_neg h0]
theorem be_dig {u : Nat} (h : u < 18446744073709551616) : be (dig u) = u := be_digF 8 u h
theorem dig_zero : dig 0 = [] := rfl
theorem dig_pos {u : Nat} (h0 : u ≠ 0) (h : u < 18446744073709551616) : dig u = dig (u / 256) ++ [UInt8.ofNat (u % 256)] := by
 unfold dig
 have h7 : u / 256 < 256 ^ 7 := by
   have : (256 : Nat) ^ 7 = 72057594037927936 := by decide
   omega
 rw [digF, if_neg h0, digF_more 7 (u / 256) h7]
theorem digF_len : ∀ (k u n : Nat), n ≤ k → u < 256 ^ n → (digF k u).length ≤ n
 | 0, u, n, h, _ => by simp [digF]
 | k + 1, u, n, h, hu => by
   unfold digF
   split
   · simp
   · rename_i h0
     cases n with
     | zero => simp at hu; omega
     | succ n =>
       have := digF_len k (u / 256) n (by omega) (by rw [Nat.pow_succ] at hu; exact Nat.div_lt_of_lt_mul (by omega)); simp; omega
theorem dig_len {u n : Nat} (hn : n ≤ 8) (h : u < 256 ^ n) : (dig u).length ≤ n := digF_len 8 u n hn h
theorem dig_len8 (u : Nat) : (dig u).length ≤ 8 := by
 by_cases h : u < 256 ^ 8
 · exact dig_len (Nat.le_refl _) h
 · have : ∀ (k u : Nat), (digF k u).length ≤ k := by
     intro k
     induction k with
     | zero => intro u; simp [digF]
     | succ k ih => intro u; unfold digF; split; · simp
                    · have := ih (u / 256); simp; omega
   exact this 8 u
theorem dig_ge {u : Nat} (h : u < 18446744073709551616) : u < 256 ^ (dig u).length := by
 have := be_lt _ (dig u) rfl
 rwa [be_dig h] at this
theorem dig_get : ∀ (n u : Nat), n ≤ 8 → (dig u).length = n → u < 18446744073709551616 → ∀ j, j < n → (dig u)[j]? = some (UInt8.ofNat (u / 256 ^ (n - 1 - j) % 256))
 | 0, _, _, _, _, j, h => by omega
 | n + 1, u, hn, hl, hu, j, hj => by
   have h0 : u ≠ 0 := fun e => by rw [e, dig_zero] at hl; simp at hl
   rw [dig_pos h0 hu] at hl ⊢; have hl' : (dig (u / 256)).length = n := by simpa using hl
   rcases Nat.lt_or_ge j n with h | h
   · rw [List.getElem?_append_left (by omega), dig_get n (u / 256) (by omega) hl' (by omega) j h, Nat.div_div_eq_div_mul, ← Nat.pow_succ', show (n - 1 - j).succ = n + 1 - 1 - j by omega]
   · obtain rfl : j = n := by omega
     rw [List.getElem?_append_right (by omega), hl']; simp
def numC (n : Int) : List UInt8 :=
 if 0 ≤ n ∧ n < 128 then [UInt8.ofNat n.toNat]
 else if n < 0 then UInt8.ofNat (144 + (dig (-1 - n).toNat).length) :: dig (-1 - n).toNat
 else UInt8.ofNat (128 + (dig n.toNat).length) :: dig n.toNat
theorem numC_small {n : Int} (h : 0 ≤ n ∧ n < 128) : numC n = [UInt8.ofNat n.toNat] := by unfold numC; rw [if_pos h]
theorem numC_neg {n : Int} (h : n < 0) : numC n = UInt8.ofNat (144 + (dig (-1 - n).toNat).length) :: dig (-1 - n).toNat := by
 unfold numC; rw [if_neg (by omega), if_pos h]
theorem numC_big {n : Int} (h : 128 ≤ n) : numC n = UInt8.ofNat (128 + (dig n.toNat).length) :: dig n.toNat := by
 unfold numC; rw [if_neg (by omega), if_neg (by omega)]
theorem numC_len (n : Int) : 1 ≤ (numC n).length ∧ (numC n).length ≤ 9 := by
 unfold numC
 split
 · simp
 · split
   · have := dig_len8 (-1 - n).toNat; simp; omega
   · have := dig_len8 n.toNat; simp; omega
def toI (u : Nat) : Int := if u < 9223372036854775808 then u else (u : Int) - 18446744073709551616
def flip (u : Nat) : Nat := 18446744073709551615 - u
def sizeOf_ (h : UInt8) : Nat := if 144 ≤ h.toNat then h.toNat - 144 else h.toNat - 128
def valOf (h : UInt8) (l : List UInt8) : Int := toI (if 144 ≤ h.toNat then flip (be l) else be l)
def firstC : List UInt8 → Option (Int × Nat)
 | [] => none
 | h :: t => if h.toNat < 128 then some (h.toNat, 1) else
   if 8 < sizeOf_ h ∨ t.length < sizeOf_ h then none else
   if numC (valOf h (t.take (sizeOf_ h))) = h :: t.take (sizeOf_ h) then some (valOf h (t.take (sizeOf_ h)), 1 + sizeOf_ h) else none
theorem firstC_cons (h : UInt8) (t : List UInt8) : firstC (h :: t) = if h.toNat < 128 then some ((h.toNat : Int), 1) else
   if 8 < sizeOf_ h ∨ t.length < sizeOf_ h then none else
   if numC (valOf h (t.take (sizeOf_ h))) = h :: t.take (sizeOf_ h) then some (valOf h (t.take (sizeOf_ h)), 1 + sizeOf_ h) else none := rfl
theorem toI_range {u : Nat} (h : u < 18446744073709551616) : -9223372036854775808 ≤ toI u ∧ toI u ≤ 9223372036854775807 := by unfold toI; split <;> omega
theorem be_take_lt (t : List UInt8) {k : Nat} (hk : k ≤ 8) : be (t.take k) < 18446744073709551616 := by
 have h1 := be_lt _ (t.take k) rfl; have h2 : (t.take k).length ≤ 8 := by rw [List.length_take]; omega
 have h3 : 256 ^ (t.take k).length ≤ 256 ^ 8 := Nat.pow_le_pow_right (by omega) h2; exact Nat.lt_of_lt_of_le h1 (Nat.le_trans h3 (by decide))
theorem valOf_range (h : UInt8) (t : List UInt8) {k : Nat} (hk : k ≤ 8) : -9223372036854775808 ≤ valOf h (t.take k) ∧ valOf h (t.take k) ≤ 9223372036854775807 := by
 have := be_take_lt t hk; unfold valOf; refine toI_range ?_
 split
 · unfold flip; omega
 · exact this
theorem firstC_some {b : List UInt8} {n : Int} {k : Nat} (h : firstC b = some (n, k)) : numC n = b.take k ∧ 1 ≤ k ∧ k ≤ b.length ∧ k ≤ 9 ∧ -9223372036854775808 ≤ n ∧ n ≤ 9223372036854775807 := by
 cases b with
 | nil => cases h
 | cons c t =>
   rw [firstC_cons] at h
   by_cases hc : c.toNat < 128
   · rw [if_pos hc] at h
     simp only [Option.some.injEq, Prod.mk.injEq] at h; obtain ⟨rfl, rfl⟩ := h; refine ⟨?_, by omega, by simp, by omega, by omega, by omega⟩; rw [numC_small ⟨by omega, by omega⟩]; simp
   · rw [if_neg hc] at h
     by_cases hs : 8 < sizeOf_ c ∨ t.length < sizeOf_ c
     · rw [if_pos hs] at h; cases h
     · rw [if_neg hs] at h
       by_cases hn : numC (valOf c (t.take (sizeOf_ c))) = c :: t.take (sizeOf_ c)
       · rw [if_pos hn] at h
         simp only [Option.some.injEq, Prod.mk.injEq] at h; obtain ⟨rfl, rfl⟩ := h; have hr := valOf_range c t (k := sizeOf_ c) (by omega); refine ⟨?_, by omega, by simp; omega, by omega, hr.1, hr.2⟩; rw [hn, show 1 + sizeOf_ c = sizeOf_ c + 1 by omega, List.take_succ_cons]
       · rw [if_neg hn] at h; cases h
theorem toNat_ofNat {n : Nat} (h : n < 256) : (UInt8.ofNat n).toNat = n := by simp; omega
theorem firstC_numC {n : Int} (h1 : -9223372036854775808 ≤ n) (h2 : n ≤ 9223372036854775807) (r : List UInt8) : firstC (numC n ++ r) = some (n, (numC n).length) := by
 by_cases hs : 0 ≤ n ∧ n < 128
 · rw [numC_small hs]
   rw [List.cons_append, firstC_cons, toNat_ofNat (by omega), if_pos (by omega)]; simp; omega
 · have key : ∀ (hd : UInt8) (u : Nat), numC n = hd :: dig u → hd.toNat ≥ 128 → sizeOf_ hd = (dig u).length → u < 18446744073709551616 → valOf hd (dig u) = n → firstC (numC n ++ r) = some (n, (numC n).length) := by
     intro hd u e hh hz hu hv; rw [e, List.cons_append, firstC_cons]; have h8 := dig_len8 u; have ht : (dig u ++ r).take (sizeOf_ hd) = dig u := by rw [hz, List.take_left]
     rw [if_neg (by omega), if_neg (by rw [hz]; simp; omega), ht, hv, if_pos e, hz, List.length_cons, Nat.add_comm]
   by_cases hn : n < 0
   · have hu : (-1 - n).toNat < 9223372036854775808 := by omega
     have h8 := dig_len8 (-1 - n).toNat; refine key _ _ (numC_neg hn) (by rw [toNat_ofNat (by omega)]; omega) (by unfold sizeOf_; rw [toNat_ofNat (by omega)]; simp) (by omega) ?_; unfold valOf; rw [toNat_ofNat (by omega), if_pos (by omega), be_dig (by omega)]; unfold flip toI; rw [if_neg (by omega)]; omega
   · have hu : n.toNat < 9223372036854775808 := by omega
     have h8 := dig_len8 n.toNat; refine key _ _ (numC_big (by omega)) (by rw [toNat_ofNat (by omega)]; omega) (by unfold sizeOf_; rw [toNat_ofNat (by omega), if_neg (by omega)]; omega) (by omega) ?_; unfold valOf; rw [toNat_ofNat (by omega), if_neg (by omega), be_dig (by omega)]; unfold toI; rw [if_pos (by omega)]; omega
def lt8 : ByteArray := ⟨#[0, 1, 2, 2, 3, 3, 3, 3, 4, 4, 4, 4, 4, 4, 4, 4, 5, 5, 5, 5, 5, 5, 5, 5, 5, 5, 5, 5, 5, 5, 5, 5, 6, 6, 6, 6, 6, 6, 6, 6, 6, 6, 6, 6, 6, 6, 6, 6, 6, 6, 6, 6, 6, 6, 6, 6, 6, 6, 6, 6, 6, 6, 6, 6, 7, 7, 7, 7, 7, 7, 7, 7, 7, 7, 7, 7, 7, 7, 7, 7, 7, 7, 7, 7, 7, 7, 7, 7, 7, 7, 7, 7, 7, 7, 7, 7, 7, 7, 7, 7, 7, 7, 7, 7, 7, 7, 7, 7, 7, 7, 7, 7, 7, 7, 7, 7, 7, 7, 7, 7, 7, 7, 7, 7, 7, 7, 7, 7, 8, 8, 8, 8, 8, 8, 8, 8, 8, 8, 8, 8, 8, 8, 8, 8, 8, 8, 8, 8, 8, 8, 8, 8, 8, 8, 8, 8, 8, 8, 8, 8, 8, 8, 8, 8, 8, 8, 8, 8, 8, 8, 8, 8, 8, 8, 8, 8, 8, 8, 8, 8, 8, 8, 8, 8, 8, 8, 8, 8, 8, 8, 8, 8, 8, 8, 8, 8, 8, 8, 8, 8, 8, 8, 8, 8, 8, 8, 8, 8, 8, 8, 8, 8, 8, 8, 8, 8, 8, 8, 8, 8, 8, 8, 8, 8, 8, 8, 8, 8, 8, 8, 8, 8, 8, 8, 8, 8, 8, 8, 8, 8, 8, 8, 8, 8, 8, 8, 8, 8, 8, 8, 8, 8, 8, 8, 8, 8]⟩
theorem lt8_def : lt8 = ⟨#[0, 1, 2, 2, 3, 3, 3, 3, 4, 4, 4, 4, 4, 4, 4, 4, 5, 5, 5, 5, 5, 5, 5, 5, 5, 5, 5, 5, 5, 5, 5, 5, 6, 6, 6, 6, 6, 6, 6, 6, 6, 6, 6, 6, 6, 6, 6, 6, 6, 6, 6, 6, 6, 6, 6, 6, 6, 6, 6, 6, 6, 6, 6, 6, 7, 7, 7, 7, 7, 7, 7, 7, 7, 7, 7, 7, 7, 7, 7, 7, 7, 7, 7, 7, 7, 7, 7, 7, 7, 7, 7, 7, 7, 7, 7, 7, 7, 7, 7, 7, 7, 7, 7, 7, 7, 7, 7, 7, 7, 7, 7, 7, 7, 7, 7, 7, 7, 7, 7, 7, 7, 7, 7, 7, 7, 7, 7, 7, 8, 8, 8, 8, 8, 8, 8, 8, 8, 8, 8, 8, 8, 8, 8, 8, 8, 8, 8, 8, 8, 8, 8, 8, 8, 8, 8, 8, 8, 8, 8, 8, 8, 8, 8, 8, 8, 8, 8, 8, 8, 8, 8, 8, 8, 8, 8, 8, 8, 8, 8, 8, 8, 8, 8, 8, 8, 8, 8, 8, 8, 8, 8, 8, 8, 8, 8, 8, 8, 8, 8, 8, 8, 8, 8, 8, 8, 8, 8, 8, 8, 8, 8, 8, 8, 8, 8, 8, 8, 8, 8, 8, 8, 8, 8, 8, 8, 8, 8, 8, 8, 8, 8, 8, 8, 8, 8, 8, 8, 8, 8, 8, 8, 8, 8, 8, 8, 8, 8, 8, 8, 8, 8, 8, 8, 8, 8, 8]⟩ := rfl
theorem lt8_size : lt8.size = 256 := by kernel_rfl
theorem lt8_nat : ∀ x, (h : x < 256) → x < 2 ^ (lt8[x]'(by rw [lt8_size]; exact h)).toNat ∧ ((lt8[x]'(by rw [lt8_size]; exact h)).toNat = 0 ∨ 2 ^ ((lt8[x]'(by rw [lt8_size]; exact h)).toNat - 1) ≤ x) ∧ (lt8[x]'(by rw [lt8_size]; exact h)).toNat ≤ 8 := by
 decide +kernel
theorem lt8_int (x : Int) (h0 : 0 ≤ x) (h1 : x < 256) (h : x.toNat < lt8.size) : x < 2 ^ (lt8[x.toNat]'h).toNat ∧ ((lt8[x.toNat]'h).toNat = 0 ∨ 2 ^ ((lt8[x.toNat]'h).toNat - 1) ≤ x) ∧ (lt8[x.toNat]'h).toNat ≤ 8 := by
 obtain ⟨n, rfl⟩ := Int.eq_ofNat_of_zero_le h0; have := lt8_nat n (by omega); simp only [Int.toNat_natCast] at this ⊢; obtain ⟨a, b, c⟩ := this; exact ⟨by exact_mod_cast a, by exact_mod_cast b, c⟩
theorem bits_of {u x : Int} {s t : Nat} (hx : x = u / 2 ^ s) (h1 : x < 2 ^ t) (h2 : t = 0 ∨ 2 ^ (t - 1) ≤ x) (h3 : s = 0 ∨ 1 ≤ x) : u < 2 ^ (s + t) ∧ (s + t = 0 ∨ 2 ^ (s + t - 1) ≤ u) := by
 have hp : (0 : Int) < 2 ^ s := Int.pow_pos (by omega); have e1 : u < (x + 1) * 2 ^ s := by rw [hx]; exact Int.lt_ediv_add_one_mul_self u hp
 have e2 : x * 2 ^ s ≤ u := by rw [hx]; exact Int.ediv_mul_le u (by omega)
 refine ⟨?_, ?_⟩
 · rw [Int.pow_add, Int.mul_comm]
   exact Int.lt_of_lt_of_le e1 (Int.mul_le_mul_of_nonneg_right (by omega) (by omega))
 · rcases h2 with h2 | h2
   · subst h2
     simp at h1; rcases h3 with h3 | h3
     · exact .inl (by omega)
     · omega
   · rcases Nat.eq_zero_or_pos t with ht | ht
     · subst ht
       simp at h1 h2; omega
     · right
       rw [show s + t - 1 = (t - 1) + s by omega, Int.pow_add]; exact Int.le_trans (Int.mul_le_mul_of_nonneg_right h2 (by omega)) e2
theorem wrap_0 (T : Nat) (h : T ≤ 8) : wrap64 (wrap64 (T : Int)) = ((0 + T : Nat) : Int) := by unfold wrap64; omega
theorem wrap_s (s T : Nat) (hs : s ≤ 56) (h : T ≤ 8) : wrap64 ((s : Int) + wrap64 (T : Int)) = ((s + T : Nat) : Int) := by unfold wrap64; omega
theorem len64_0 (u : Int) (w : World) (h0 : 0 ≤ u) (h1 : u ≤ 18446744073709551615) (h32 : u < 4294967296) (h16 : u < 65536) (h8 : u < 256) :
   Calls Tryz.prog 201 #[.int .u64 u] w fun e w' => (∃ k : Nat, e = .returned (vI k) ∧ k ≤ 64 ∧ u < 2 ^ k ∧ (k = 0 ∨ 2 ^ (k - 1) ≤ u)) ∧ w = w' := by
 have _k := And.intro h0 (And.intro h1 (And.intro h32 (And.intro h16 h8))); clear _k; have hT := lt8_int (u) (by omega) (by omega)
 go_enter Tryz.func201, Tryz.ntmps201
 go_wp2; simp only [← lt8_def]; go_ret; have hh : (u).toNat < lt8.size := by rw [lt8_size]; omega
 have hT := hT hh; have hb := bits_of (u := u) (s := 0) (by omega) hT.1 hT.2.1 (by omega); exact ⟨⟨0 + (lt8[(u).toNat]'hh).toNat, ret1 (num (wrap_0 _ hT.2.2)), Nat.add_le_add (by omega : 0 ≤ 56) hT.2.2, hb.1, hb.2⟩, rfl⟩
theorem len64_1 (u : Int) (w : World) (h0 : 0 ≤ u) (h1 : u ≤ 18446744073709551615) (h32 : u < 4294967296) (h16 : u < 65536) (h8 : ¬ u < 256) :
   Calls Tryz.prog 201 #[.int .u64 u] w fun e w' => (∃ k : Nat, e = .returned (vI k) ∧ k ≤ 64 ∧ u < 2 ^ k ∧ (k = 0 ∨ 2 ^ (k - 1) ≤ u)) ∧ w = w' := by
 have _k := And.intro h0 (And.intro h1 (And.intro h32 (And.intro h16 h8))); clear _k; have hT := lt8_int (u / 256) (by omega) (by omega)
 go_enter Tryz.func201, Tryz.ntmps201
 go_wp2; simp only [← lt8_def]; go_ret; have hh : (u / 256).toNat < lt8.size := by rw [lt8_size]; omega
 have hT := hT hh; have hb := bits_of (u := u) (s := 8) (by omega) hT.1 hT.2.1 (by omega); exact ⟨⟨8 + (lt8[(u / 256).toNat]'hh).toNat, ret1 (num (wrap_s 8 _ (by omega) hT.2.2)), Nat.add_le_add (by omega : 8 ≤ 56) hT.2.2, hb.1, hb.2⟩, rfl⟩
theorem len64_2 (u : Int) (w : World) (h0 : 0 ≤ u) (h1 : u ≤ 18446744073709551615) (h32 : u < 4294967296) (h16 : ¬ u < 65536) (h8 : u / 65536 < 256) :
   Calls Tryz.prog 201 #[.int .u64 u] w fun e w' => (∃ k : Nat, e = .returned (vI k) ∧ k ≤ 64 ∧ u < 2 ^ k ∧ (k = 0 ∨ 2 ^ (k - 1) ≤ u)) ∧ w = w' := by
 have _k := And.intro h0 (And.intro h1 (And.intro h32 (And.intro h16 h8))); clear _k; have hT := lt8_int (u / 65536) (by omega) (by omega)
 go_enter Tryz.func201, Tryz.ntmps201
 go_wp2; simp only [← lt8_def]; go_ret; have hh : (u / 65536).toNat < lt8.size := by rw [lt8_size]; omega
 have hT := hT hh; have hb := bits_of (u := u) (s := 16) (by omega) hT.1 hT.2.1 (by omega); exact ⟨⟨16 + (lt8[(u / 65536).toNat]'hh).toNat, ret1 (num (wrap_s 16 _ (by omega) hT.2.2)), Nat.add_le_add (by omega : 16 ≤ 56) hT.2.2, hb.1, hb.2⟩, rfl⟩
theorem len64_3 (u : Int) (w : World) (h0 : 0 ≤ u) (h1 : u ≤ 18446744073709551615) (h32 : u < 4294967296) (h16 : ¬ u < 65536) (h8 : ¬ u / 65536 < 256) :
   Calls Tryz.prog 201 #[.int .u64 u] w fun e w' => (∃ k : Nat, e = .returned (vI k) ∧ k ≤ 64 ∧ u < 2 ^ k ∧ (k = 0 ∨ 2 ^ (k - 1) ≤ u)) ∧ w = w' := by
 have _k := And.intro h0 (And.intro h1 (And.intro h32 (And.intro h16 h8))); clear _k; have hT := lt8_int (u / 65536 / 256) (by omega) (by omega)
 go_enter Tryz.func201, Tryz.ntmps201
 go_wp2; simp only [← lt8_def]; go_ret; have hh : (u / 65536 / 256).toNat < lt8.size := by rw [lt8_size]; omega
 have hT := hT hh; have hb := bits_of (u := u) (s := 24) (by omega) hT.1 hT.2.1 (by omega); exact ⟨⟨24 + (lt8[(u / 65536 / 256).toNat]'hh).toNat, ret1 (num (wrap_s 24 _ (by omega) hT.2.2)), Nat.add_le_add (by omega : 24 ≤ 56) hT.2.2, hb.1, hb.2⟩, rfl⟩
theorem len64_4 (u : Int) (w : World) (h0 : 0 ≤ u) (h1 : u ≤ 18446744073709551615) (h32 : ¬ u < 4294967296) (h16 : u / 4294967296 < 65536) (h8 : u / 4294967296 < 256) :
   Calls Tryz.prog 201 #[.int .u64 u] w fun e w' => (∃ k : Nat, e = .returned (vI k) ∧ k ≤ 64 ∧ u < 2 ^ k ∧ (k = 0 ∨ 2 ^ (k - 1) ≤ u)) ∧ w = w' := by
 have _k := And.intro h0 (And.intro h1 (And.intro h32 (And.intro h16 h8))); clear _k; have hT := lt8_int (u / 4294967296) (by omega) (by omega)
 go_enter Tryz.func201, Tryz.ntmps201
 go_wp2; simp only [← lt8_def]; go_ret; have hh : (u / 4294967296).toNat < lt8.size := by rw [lt8_size]; omega
 have hT := hT hh; have hb := bits_of (u := u) (s := 32) (by omega) hT.1 hT.2.1 (by omega); exact ⟨⟨32 + (lt8[(u / 4294967296).toNat]'hh).toNat, ret1 (num (wrap_s 32 _ (by omega) hT.2.2)), Nat.add_le_add (by omega : 32 ≤ 56) hT.2.2, hb.1, hb.2⟩, rfl⟩
theorem len64_5 (u : Int) (w : World) (h0 : 0 ≤ u) (h1 : u ≤ 18446744073709551615) (h32 : ¬ u < 4294967296) (h16 : u / 4294967296 < 65536) (h8 : ¬ u / 4294967296 < 256) :
   Calls Tryz.prog 201 #[.int .u64 u] w fun e w' => (∃ k : Nat, e = .returned (vI k) ∧ k ≤ 64 ∧ u < 2 ^ k ∧ (k = 0 ∨ 2 ^ (k - 1) ≤ u)) ∧ w = w' := by
 have _k := And.intro h0 (And.intro h1 (And.intro h32 (And.intro h16 h8))); clear _k; have hT := lt8_int (u / 4294967296 / 256) (by omega) (by omega)
 go_enter Tryz.func201, Tryz.ntmps201
 go_wp2; simp only [← lt8_def]; go_ret; have hh : (u / 4294967296 / 256).toNat < lt8.size := by rw [lt8_size]; omega
 have hT := hT hh; have hb := bits_of (u := u) (s := 40) (by omega) hT.1 hT.2.1 (by omega); exact ⟨⟨40 + (lt8[(u / 4294967296 / 256).toNat]'hh).toNat, ret1 (num (wrap_s 40 _ (by omega) hT.2.2)), Nat.add_le_add (by omega : 40 ≤ 56) hT.2.2, hb.1, hb.2⟩, rfl⟩
theorem len64_6 (u : Int) (w : World) (h0 : 0 ≤ u) (h1 : u ≤ 18446744073709551615) (h32 : ¬ u < 4294967296) (h16 : ¬ u / 4294967296 < 65536) (h8 : u / 4294967296 / 65536 < 256) :
   Calls Tryz.prog 201 #[.int .u64 u] w fun e w' => (∃ k : Nat, e = .returned (vI k) ∧ k ≤ 64 ∧ u < 2 ^ k ∧ (k = 0 ∨ 2 ^ (k - 1) ≤ u)) ∧ w = w' := by
 have _k := And.intro h0 (And.intro h1 (And.intro h32 (And.intro h16 h8))); clear _k; have hT := lt8_int (u / 4294967296 / 65536) (by omega) (by omega)
 go_enter Tryz.func201, Tryz.ntmps201
 go_wp2; simp only [← lt8_def]; go_ret; have hh : (u / 4294967296 / 65536).toNat < lt8.size := by rw [lt8_size]; omega
 have hT := hT hh; have hb := bits_of (u := u) (s := 48) (by omega) hT.1 hT.2.1 (by omega); exact ⟨⟨48 + (lt8[(u / 4294967296 / 65536).toNat]'hh).toNat, ret1 (num (wrap_s 48 _ (by omega) hT.2.2)), Nat.add_le_add (by omega : 48 ≤ 56) hT.2.2, hb.1, hb.2⟩, rfl⟩
theorem len64_7 (u : Int) (w : World) (h0 : 0 ≤ u) (h1 : u ≤ 18446744073709551615) (h32 : ¬ u < 4294967296) (h16 : ¬ u / 4294967296 < 65536) (h8 : ¬ u / 4294967296 / 65536 < 256) :
   Calls Tryz.prog 201 #[.int .u64 u] w fun e w' => (∃ k : Nat, e = .returned (vI k) ∧ k ≤ 64 ∧ u < 2 ^ k ∧ (k = 0 ∨ 2 ^ (k - 1) ≤ u)) ∧ w = w' := by
 have _k := And.intro h0 (And.intro h1 (And.intro h32 (And.intro h16 h8))); clear _k; have hT := lt8_int (u / 4294967296 / 65536 / 256) (by omega) (by omega)
 go_enter Tryz.func201, Tryz.ntmps201
 go_wp2; simp only [← lt8_def]; go_ret; have hh : (u / 4294967296 / 65536 / 256).toNat < lt8.size := by rw [lt8_size]; omega
 have hT := hT hh; have hb := bits_of (u := u) (s := 56) (by omega) hT.1 hT.2.1 (by omega); exact ⟨⟨56 + (lt8[(u / 4294967296 / 65536 / 256).toNat]'hh).toNat, ret1 (num (wrap_s 56 _ (by omega) hT.2.2)), Nat.add_le_add (by omega : 56 ≤ 56) hT.2.2, hb.1, hb.2⟩, rfl⟩
theorem len64_calls (u : Int) (w : World) (h0 : 0 ≤ u) (h1 : u ≤ 18446744073709551615) :
   Calls Tryz.prog 201 #[.int .u64 u] w fun e w' => (∃ k : Nat, e = .returned (vI k) ∧ k ≤ 64 ∧ u < 2 ^ k ∧ (k = 0 ∨ 2 ^ (k - 1) ≤ u)) ∧ w = w' := by
 by_cases h32 : u < 4294967296
 · by_cases h16 : u < 65536
   · by_cases h8 : u < 256
     · exact len64_0 u w h0 h1 h32 h16 h8
     · exact len64_1 u w h0 h1 h32 h16 h8
   · by_cases h8 : u / 65536 < 256
     · exact len64_2 u w h0 h1 h32 h16 h8
     · exact len64_3 u w h0 h1 h32 h16 h8
 · by_cases h16 : u / 4294967296 < 65536
   · by_cases h8 : u / 4294967296 < 256
     · exact len64_4 u w h0 h1 h32 h16 h8
     · exact len64_5 u w h0 h1 h32 h16 h8
   · by_cases h8 : u / 4294967296 / 65536 < 256
     · exact len64_6 u w h0 h1 h32 h16 h8
     · exact len64_7 u w h0 h1 h32 h16 h8
end
end Ce
section
open Go.RowKit
theorem Sl.zero {w : World} {lo B size c : Nat} {A : Option Addr} (h : c ≤ maxLen) : Sl w lo B size (.slice A 0 c) 0 [] := ⟨by simp, _, _, rfl, Nat.zero_le _, h, fun h => by omega⟩
theorem Sl.upTo {w : World} {lo B size n k c : Nat} {A : Option Addr} {xs : List Value} (h : Sl w lo B size (.slice A n c) n xs) (hk : k ≤ n) : Sl w lo B size (.slice A k c) k (xs.take (k * size)) := by
 obtain ⟨A', c', e, h1, h2, h3⟩ := h.at_
 cases e
 have hl := h.len; have hm : k * size ≤ n * size := Nat.mul_le_mul_right _ hk; refine ⟨by rw [List.length_take]; omega, _, _, rfl, by omega, h2, fun hn => ?_⟩; obtain ⟨b, o, e, h4, h5, h6⟩ := h3 (by omega); exact ⟨b, o, e, h4, h5, fun j hj => by rw [h6 j (by omega), List.getElem?_take, if_pos hj]⟩
theorem Sl.onFrom {w : World} {lo B size n k c : Nat} {b o : Nat} {xs : List Value} (h : Sl w lo B size (.slice (some ⟨b, o, none⟩) n c) n xs) (hk : k ≤ n) :
   Sl w lo B size (.slice (if c = k then some ⟨b, o, none⟩ else some ⟨b, o + k * size, none⟩) (n - k) (c - k)) (n - k) (xs.drop (k * size)) := by
 obtain ⟨A', c', e, h1, h2, h3⟩ := h.at_
 cases e
 have hl := h.len; have hm : (n - k) * size + k * size = n * size := by rw [← Nat.add_mul]; congr 1; omega
 refine ⟨by rw [List.length_drop]; omega, _, _, rfl, by omega, by omega, fun hn => ?_⟩; obtain ⟨b', o', e, h4, h5, h6⟩ := h3 (by omega)
 cases e
 rw [if_neg (by omega)]; exact ⟨_, _, rfl, h4, h5, fun j hj => by rw [Nat.add_assoc, h6 _ (by omega), List.getElem?_drop]⟩
end
namespace Ce
section
open Go.RowKit
def bytesV (l : List UInt8) : List Value := l.map fun c => Value.int .u8 (c.toNat : Int)
theorem bytesV_length (l : List UInt8) : (bytesV l).length = l.length := by simp [bytesV]
theorem bytesV_append (a b : List UInt8) : bytesV (a ++ b) = bytesV a ++ bytesV b := by simp [bytesV]
theorem bytesV_one (l : List UInt8) : ∀ y ∈ bytesV l, y.oneCell' = true := by
 intro y hy; obtain ⟨x, _, rfl⟩ := List.mem_map.1 hy
 rfl
def BytesAt (w : World) (lo B : Nat) (v : Value) (l : List UInt8) : Prop := Sl w lo B 1 v l.length (bytesV l)
section
variable {w w' : World} {lo lo' B B' : Nat} {v : Value} {l : List UInt8}
theorem BytesAt.below (h : BytesAt w lo B v l) (hb : Below B w w') : BytesAt w' lo B v l := Sl.below h hb
theorem BytesAt.mono (h : BytesAt w lo B v l) (hb : Below B w w') (hB : B ≤ B') : BytesAt w' lo B' v l := Sl.mono h hb hB
theorem BytesAt.wide (h : BytesAt w lo B v l) (hl : lo' ≤ lo) (hB : B ≤ B') : BytesAt w lo' B' v l := Sl.wide h hl hB
theorem BytesAt.nil (w : World) (lo B : Nat) : BytesAt w lo B vN [] := Sl.nil w lo B 1
theorem BytesAt.form (h : BytesAt w lo B v l) : ∃ A c, v = .slice A l.length c ∧ l.length ≤ c ∧ c ≤ maxLen := by
 obtain ⟨A, c, e, h1, h2, _⟩ := h.at_; exact ⟨A, c, e, h1, h2⟩
theorem BytesAt.cellAt {A : Option Addr} {n c j : Nat} (h : BytesAt w lo B (.slice A n c) l) (hj : j < l.length) :
   ∃ b o, A = some ⟨b, o, none⟩ ∧ lo ≤ b ∧ b < B ∧ w.cell? ⟨b, o + j, none⟩ = some (.int .u8 (l[j].toNat : Int)) := by
 obtain ⟨A', c', e, _, _, h3⟩ := h.at_
 cases e
 obtain ⟨b, o, e1, e2, e3, e4⟩ := h3 (by omega); refine ⟨b, o, e1, e2, e3, (e4 j (by omega)).trans ?_⟩; simp [bytesV, hj]
theorem BytesAt.of_own {e : TypeId} {n : Nat} (h : w.ownsRow lo e 1 v n (bytesV l)) : BytesAt w lo w.heap.size v l := by
 have hn : n = l.length := by have := h.1; rw [bytesV_length] at this; omega
 subst hn; exact Sl.of_own h
end
theorem byte_info : (Tryz.prog.info? 5).map (fun i => (i.zero, i.size, i.bytes)) = some (some (.int .u8 0), 1, 1) := by kernel_rfl
theorem byte_of {n : Int} {k : Nat} (h : n = k) (hk : k < 256) : Value.int .u8 n = .int .u8 ((UInt8.ofNat k).toNat : Int) := by
 rw [h, toNat_ofNat hk]
theorem size_of {u : Int} {k : Nat} (h0 : 0 ≤ u) (h1 : u ≤ 18446744073709551615) (hk : k ≤ 64) (h2 : u < 2 ^ k) (h3 : k = 0 ∨ 2 ^ (k - 1) ≤ u) : (k + 7) / 8 = (dig u.toNat).length := by
 obtain ⟨n, rfl⟩ := Int.eq_ofNat_of_zero_le h0; simp only [Int.toNat_natCast]; have h2' : n < 2 ^ k := by exact_mod_cast h2
 have h3' : k = 0 ∨ 2 ^ (k - 1) ≤ n := by
   rcases h3 with h | h
   · exact .inl h
   · exact .inr (by exact_mod_cast h)
 refine Nat.le_antisymm ?_ ?_
 · have hg := dig_ge (u := n) (by omega)
   rcases h3' with rfl | h
   · simp
   · have hlt : 2 ^ (k - 1) < 2 ^ (8 * (dig n).length) := by
       rw [Nat.pow_mul]; exact Nat.lt_of_le_of_lt h hg
     have := (Nat.pow_lt_pow_iff_right (a := 2) (by omega)).1 hlt; omega
 · refine dig_len (by omega) ?_
   rw [show (256 : Nat) = 2 ^ 8 by rfl, ← Nat.pow_mul]; exact Nat.lt_of_lt_of_le h2' (Nat.pow_le_pow_right (by omega) (by omega))
theorem flip_neg {n : Int} (h0 : -9223372036854775808 ≤ n) (h : n < 0) : bits .xor .u64 IntKind.u64.max (IntKind.u64.wrap n) = -1 - n := by
 have e1 : IntKind.u64.wrap n = (((n + 18446744073709551616).toNat : Nat) : Int) := by
   rw [IntKind.wrap_u64]; omega
 have e2 : IntKind.u64.max = ((2 ^ 64 - 1 : Nat) : Int) := by decide
 rw [e1, e2, bits_xor_u64_nat _ _ (by decide) (by omega), Lib.xor_ones64 _ (by omega)]; omega
theorem byte_shift {u : Int} {m : Nat} (h : 0 ≤ u) : u / 2 ^ (8 * m) % 256 = ((u.toNat / 256 ^ m % 256 : Nat) : Int) := by
 obtain ⟨x, rfl⟩ := Int.eq_ofNat_of_zero_le h; simp only [Int.toNat_natCast]
 have h1 : ((2 : Nat) ^ (8 * m) : Nat) = 256 ^ m := by
   rw [Nat.pow_mul]
 have h2 : (2 : Int) ^ (8 * m) = ((2 ^ (8 * m) : Nat) : Int) := (Int.natCast_pow 2 (8 * m)).symm; rw [h2, h1]; generalize 256 ^ m = q; omega
theorem BytesAt.clip {w : World} {lo B n c : Nat} {A : Option Addr} {l : List UInt8} (h : BytesAt w lo B (.slice A n c) l) : BytesAt w lo B (.slice A n n) l := by
 have h0 := h.len; obtain ⟨A', c', e, h1, h2, h3⟩ := h.at_
 cases e
 exact ⟨h0, _, _, rfl, Nat.le_refl _, Nat.le_trans h1 h2, h3⟩
theorem clip_calls (A : Option Addr) (n c : Nat) (w : World) (h : n ≤ c) :
   Calls Tryz.prog 202 #[.slice A n c] w fun e w' => e = .returned (.slice A n n) ∧ w = w' := by
 have k1 : (0 : Int) ≤ (n : Int) := by omega
 have k2 : (n : Int) ≤ (c : Int) := by omega
 go_enter Tryz.func202, Tryz.ntmps202
 go_wp2; go_ret; exact ⟨rfl, rfl⟩
theorem num_calls (n : Int) (w : World) (h0 : -9223372036854775808 ≤ n) (h1 : n ≤ 9223372036854775807) :
   Calls Tryz.prog 143 #[vI n] w fun e w' => (∃ v, e = .returned v ∧ BytesAt w' w.heap.size w'.heap.size v (numC n)) ∧ Below w.heap.size w w' := by
 obtain ⟨i0, hi0, hz0, hz1, hz2⟩ := inf3 byte_info
 by_cases hs : 0 ≤ n ∧ n < 128
 · have HS := hdd (numC_small hs)
   obtain ⟨hs1, hs2⟩ := hs; have hd1 : decide (n ≥ 0) = true := by simpa using hs1
   have hd2 : decide (n < 128) = true := by simpa using hs2
   go_enter Tryz.func143, Tryz.ntmps143
   go_wp2; go_ret; refine ⟨⟨_, rfl, ?_⟩, (Below.refl _ w).alloc (Nat.le_refl _) _⟩; rw [HS.out]; have := Sl.new w #[.int .u8 n] 5 (n := 1) (size := 1) rfl (by unfold maxLen; omega); rw [World.size_alloc]; unfold BytesAt; simp only [bytesV, List.map_cons, List.map_nil, List.length_singleton]; rw [← byte_of (n := n) (by omega) (by omega)]; exact this
 · by_cases hn : n < 0
   · have hd1 : decide (n ≥ 0) = false := by simp; omega
     have hd3 : decide (n < 0) = true := by simpa using hn
     have hx := flip_neg h0 hn
     go_enter Tryz.func143, Tryz.ntmps143
     go_wp2_with fail; refine (len64_calls (-1 - n) _ (by omega) (by omega)).mono ?_; rintro e W ⟨⟨k, rfl, hk, hk2, hk3⟩, rfl⟩; have hsz := size_of (by omega) (by omega) hk hk2 hk3; have HSZ := hdd hsz; have h8 := dig_len8 (-1 - n).toNat; clear hsz hk2 hk3; go_wp2; have hz : ((k : Int) + 8 - 1) / 8 = ((dig (-1 - n).toNat).length : Int) := by have := HSZ.out; omega
     rw [hz]; clear hz HSZ
     have hown0 : (w.alloc (.cells #[.int .u8 (144 + ((dig (-1 - n).toNat).length : Int))] 5)).ownsRow w.heap.size 5 1 (.slice (some ⟨w.heap.size, 0, none⟩) 1 1) 1 (bytesV [UInt8.ofNat (144 + (dig (-1 - n).toNat).length)]) := by
       have := World.ownsRow_lit (size := 1) (base := w.heap.size) (e := 5) w #[.int .u8 (144 + ((dig (-1 - n).toNat).length : Int))] 1 (Nat.le_refl _) (by unfold maxLen; omega) rfl; simp only [bytesV, List.map_cons, List.map_nil]; rw [← byte_of (n := 144 + ((dig (-1 - n).toNat).length : Int)) (by omega) (by omega)]; exact this
     have HG := hdd (dig_get _ (-1 - n).toNat h8 rfl (by omega)); have HNC := hdd (show numC n = UInt8.ofNat (144 + (dig (-1 - n).toNat).length) :: dig (-1 - n).toNat from numC_neg hn); generalize UInt8.ofNat (144 + (dig (-1 - n).toNat).length) = hb at *; generalize dig (-1 - n).toNat = D at *
     go_loopw [6, 7] (fun o i wr => ∃ j : Nat, j ≤ D.length ∧ i = vI ((D.length : Int) - 1 - j) ∧ wr.ownsRow w.heap.size 5 1 o (1 + j) (bytesV (hb :: D.take j)) ∧ Below w.heap.size w wr) (fun _ i _ => (intOf i + 1).toNat)
     case atStart => exact ⟨0, by omega, by go_num, hown0, (Below.refl _ w).alloc (Nat.le_refl _) _⟩
     case round =>
       obtain ⟨j, hj, rfl, hown, hB⟩ := hrel; clear hown0
       by_cases hlt : j < D.length
       · obtain ⟨m, hm⟩ : ∃ m : Nat, (D.length : Int) - 1 - j = (m : Int) := ⟨D.length - 1 - j, by omega⟩
         rw [hm]; have hm2 : m < 8 := by omega
         have HM := hdd hm; clear hm
         have hbyte : (-1 - n) / 2 ^ (8 * m) % 256 = ((D[j]'hlt).toNat : Int) := by
           have h1 := HG.out j hlt; rw [List.getElem?_eq_getElem hlt, show D.length - 1 - j = m by have := HM.out; omega] at h1; simp only [Option.some.injEq] at h1; rw [h1, toNat_ofNat (Nat.mod_lt _ (by omega))]; exact byte_shift (by omega)
         have hts : D.take (j + 1) = D.take j ++ [D[j]] := List.take_succ_eq_append_getElem hlt; have HB := hdd hbyte; have HTS := hdd (show bytesV (hb :: D.take (j + 1)) = bytesV (hb :: D.take j) ++ [.int .u8 ((D[j]'hlt).toNat : Int)] by simp only [bytesV, List.map_cons, hts, List.map_append, List.map_nil, List.cons_append]); clear hbyte hts
         go_wp2_with (at_builtin
                      refine wpList_append_sl _ rfl (.tmp 39) (.tmp 45) _ rfl w.heap.size 5 i0 _ 1 1 Tryz.underlying35 hi0 hz0 hz1 hz2 rfl (by omega) u6 (1 + j) _ rfl (hown.alloc _) wr.heap.size (wr.heap.size + 1) _ 1 [.int .u8 ((-1 - n) / 2 ^ (8 * m) % 256)] rfl (Sl.new wr #[.int .u8 ((-1 - n) / 2 ^ (8 * m) % 256)] 5 (n := 1) rfl (by unfold maxLen; omega)) (by simp [Value.oneCell']) (by unfold maxLen; omega) (by omega) (by have := hB.size; simp; omega) ?_; intro v1 w5 hv1 hg1 hat1)
         have hB4 : Below w.heap.size w w5 := (hB.alloc hB.size _).grown hg1 (by have := hB.size; simp; omega) (fun g hg => (hown.lt g hg).1); clear hg1 hat1 hown
         go_roundw
         case rel =>
           refine ⟨j + 1, by omega, num (by have := HM.out; omega), ?_, hB4⟩; rw [HTS.out, ← HB.out, ← Nat.add_assoc]; exact hv1
         case measure => have := HM.out; simp only [intOf]; omega
       · obtain rfl : j = D.length := by omega
         rw [show (D.length : Int) - 1 - (D.length : Int) = -1 by omega]; rw [List.take_length, show 1 + D.length = (hb :: D).length by rw [List.length_cons, Nat.add_comm]] at hown; have hx := (BytesAt.of_own hown); obtain ⟨A5, c5, rfl, hc5, -⟩ := hx.form; clear hown; go_wp2_with (go_at_call 202; refine (clip_calls A5 _ c5 _ hc5).mono ?_; rintro e w9 ⟨rfl, rfl⟩); go_ret; rw [HNC.out]; exact ⟨⟨_, rfl, BytesAt.clip hx⟩, hB⟩
   · have hn2 : 128 ≤ n := by omega
     have hd1 : decide (n ≥ 0) = true := by simp; omega
     have hd2 : decide (n < 128) = false := by simp; omega
     have hd3 : decide (n < 0) = false := by simp; omega
     go_enter Tryz.func143, Tryz.ntmps143
     go_wp2_with fail; refine (len64_calls (n) _ (by omega) (by omega)).mono ?_; rintro e W ⟨⟨k, rfl, hk, hk2, hk3⟩, rfl⟩; have hsz := size_of (by omega) (by omega) hk hk2 hk3; have HSZ := hdd hsz; have h8 := dig_len8 (n).toNat; clear hsz hk2 hk3; go_wp2; have hz : ((k : Int) + 8 - 1) / 8 = ((dig (n).toNat).length : Int) := by have := HSZ.out; omega
     rw [hz]; clear hz HSZ
     have hown0 : (w.alloc (.cells #[.int .u8 (128 + ((dig (n).toNat).length : Int))] 5)).ownsRow w.heap.size 5 1 (.slice (some ⟨w.heap.size, 0, none⟩) 1 1) 1 (bytesV [UInt8.ofNat (128 + (dig (n).toNat).length)]) := by
       have := World.ownsRow_lit (size := 1) (base := w.heap.size) (e := 5) w #[.int .u8 (128 + ((dig (n).toNat).length : Int))] 1 (Nat.le_refl _) (by unfold maxLen; omega) rfl; simp only [bytesV, List.map_cons, List.map_nil]; rw [← byte_of (n := 128 + ((dig (n).toNat).length : Int)) (by omega) (by omega)]; exact this
     have HG := hdd (dig_get _ (n).toNat h8 rfl (by omega)); have HNC := hdd (show numC n = UInt8.ofNat (128 + (dig (n).toNat).length) :: dig (n).toNat from numC_big hn2); generalize UInt8.ofNat (128 + (dig (n).toNat).length) = hb at *; generalize dig (n).toNat = D at *
     go_loopw [6, 7] (fun o i wr => ∃ j : Nat, j ≤ D.length ∧ i = vI ((D.length : Int) - 1 - j) ∧ wr.ownsRow w.heap.size 5 1 o (1 + j) (bytesV (hb :: D.take j)) ∧ Below w.heap.size w wr) (fun _ i _ => (intOf i + 1).toNat)
     case atStart => exact ⟨0, by omega, by go_num, hown0, (Below.refl _ w).alloc (Nat.le_refl _) _⟩
     case round =>
       obtain ⟨j, hj, rfl, hown, hB⟩ := hrel; clear hown0
       by_cases hlt : j < D.length
       · obtain ⟨m, hm⟩ : ∃ m : Nat, (D.length : Int) - 1 - j = (m : Int) := ⟨D.length - 1 - j, by omega⟩
         rw [hm]; have hm2 : m < 8 := by omega
         have HM := hdd hm; clear hm
         have hbyte : (n) / 2 ^ (8 * m) % 256 = ((D[j]'hlt).toNat : Int) := by
           have h1 := HG.out j hlt; rw [List.getElem?_eq_getElem hlt, show D.length - 1 - j = m by have := HM.out; omega] at h1; simp only [Option.some.injEq] at h1; rw [h1, toNat_ofNat (Nat.mod_lt _ (by omega))]; exact byte_shift (by omega)
         have hts : D.take (j + 1) = D.take j ++ [D[j]] := List.take_succ_eq_append_getElem hlt; have HB := hdd hbyte; have HTS := hdd (show bytesV (hb :: D.take (j + 1)) = bytesV (hb :: D.take j) ++ [.int .u8 ((D[j]'hlt).toNat : Int)] by simp only [bytesV, List.map_cons, hts, List.map_append, List.map_nil, List.cons_append]); clear hbyte hts
         go_wp2_with (at_builtin
                      refine wpList_append_sl _ rfl (.tmp 39) (.tmp 45) _ rfl w.heap.size 5 i0 _ 1 1 Tryz.underlying35 hi0 hz0 hz1 hz2 rfl (by omega) u6 (1 + j) _ rfl (hown.alloc _) wr.heap.size (wr.heap.size + 1) _ 1 [.int .u8 ((n) / 2 ^ (8 * m) % 256)] rfl (Sl.new wr #[.int .u8 ((n) / 2 ^ (8 * m) % 256)] 5 (n := 1) rfl (by unfold maxLen; omega)) (by simp [Value.oneCell']) (by unfold maxLen; omega) (by omega) (by have := hB.size; simp; omega) ?_; intro v1 w5 hv1 hg1 hat1)
         have hB4 : Below w.heap.size w w5 := (hB.alloc hB.size _).grown hg1 (by have := hB.size; simp; omega) (fun g hg => (hown.lt g hg).1); clear hg1 hat1 hown
         go_roundw
         case rel =>
           refine ⟨j + 1, by omega, num (by have := HM.out; omega), ?_, hB4⟩; rw [HTS.out, ← HB.out, ← Nat.add_assoc]; exact hv1
         case measure => have := HM.out; simp only [intOf]; omega
       · obtain rfl : j = D.length := by omega
         rw [show (D.length : Int) - 1 - (D.length : Int) = -1 by omega]; rw [List.take_length, show 1 + D.length = (hb :: D).length by rw [List.length_cons, Nat.add_comm]] at hown; have hx := (BytesAt.of_own hown); obtain ⟨A5, c5, rfl, hc5, -⟩ := hx.form; clear hown; go_wp2_with (go_at_call 202; refine (clip_calls A5 _ c5 _ hc5).mono ?_; rintro e w9 ⟨rfl, rfl⟩); go_ret; rw [HNC.out]; exact ⟨⟨_, rfl, BytesAt.clip hx⟩, hB⟩
end
end Ce
namespace Se
section
open Go.RowKit Go.Maps
open Ce
abbrev Blk := List UInt8
def blkV (b : Blk) : Value := .agg (bytesV b).toArray
def bGet (m : List (Int × Blk)) (k : Int) : Option Blk := (m.find? fun p => decide (p.1 = k)).map (·.2)
def bIns (k : Int) (b : Blk) : List (Int × Blk) → List (Int × Blk)
 | [] => [(k, b)]
 | p :: r => if k < p.1 then (k, b) :: p :: r else p :: bIns k b r
def bDel (m : List (Int × Blk)) (k : Int) : List (Int × Blk) := m.filter fun p => !decide (p.1 = k)
def bPut (m : List (Int × Blk)) (k : Int) (b : Blk) : List (Int × Blk) := bIns k b (bDel m k)
def bm (m : List (Int × Blk)) : List (Int × Value) := m.map fun p => (p.1, blkV p.2)
theorem bm_get (m : List (Int × Blk)) (k : Int) : mGet (bm m) k = (bGet m k).map blkV := by
 induction m with
 | nil => rfl
 | cons p r ih =>
   simp only [mGet, bm, List.map_cons, List.find?_cons, bGet] at ih ⊢
   by_cases h : p.1 = k
   · simp [h]
   · simp only [h, decide_false]; exact ih
theorem bm_put (m : List (Int × Blk)) (k : Int) (b : Blk) : mPut intK (bm m) k (blkV b) = bm (bPut m k b) := by
 have h1 : mDel (bm m) k = bm (bDel m k) := by
   simp only [mDel, bm, bDel, List.filter_map]
   rfl
 unfold mPut bPut; rw [h1]; generalize bDel m k = d
 induction d with
 | nil => rfl
 | cons p r ih =>
   simp only [bm, List.map_cons, mIns, bIns] at ih ⊢; have e : intK.lt k p.1 = decide (k < p.1) := rfl; rw [e]
   by_cases h : k < p.1
   · simp [h]
   · simp only [h, decide_false, if_false, Bool.false_eq_true, List.map_cons]
     rw [ih]
theorem bGet_put (m : List (Int × Blk)) (k j : Int) (b : Blk) : bGet (bPut m k b) j = if j = k then some b else bGet m j := by
 unfold bPut
 have h0 : ∀ d : List (Int × Blk), (∀ p ∈ d, p.1 ≠ k) → bGet (bIns k b d) j = if j = k then some b else bGet d j := fun d hd => by
   induction d with
   | nil => by_cases h : j = k <;> simp [bGet, bIns, h, eq_comm]
   | cons p r ih =>
     have ih := ih fun q hq => hd q (List.mem_cons_of_mem _ hq)
     have hp := hd p (by simp); simp only [bIns]
     by_cases h : k < p.1
     · simp only [h, if_true, bGet, List.find?_cons]
       by_cases e : j = k
       · simp [e]
       · simp [e, Ne.symm e]
     · simp only [h, if_false, bGet, List.find?_cons] at ih ⊢
       by_cases e : p.1 = j
       · have : j ≠ k := fun e2 => hp (e.trans e2)
         simp [e, this]
       · simp only [e, decide_false]; exact ih
 rw [h0 _ (fun p hp => by unfold bDel at hp; rw [List.mem_filter] at hp; simpa using hp.2)]
 by_cases e : j = k
 · simp [e]
 · simp only [e, if_false]
   unfold bGet bDel; rw [List.find?_filter]
   congr 2
   funext p
   by_cases h : p.1 = j
   · simp [h, e]
   · simp [h]
theorem bPut_mem {m : List (Int × Blk)} {k : Int} {b : Blk} {p : Int × Blk} (h : p ∈ bPut m k b) : p = (k, b) ∨ p ∈ m := by
 unfold bPut at h
 have h0 : ∀ d : List (Int × Blk), p ∈ bIns k b d → p = (k, b) ∨ p ∈ d := fun d => by
   induction d with
   | nil => simp [bIns]
   | cons q r ih =>
     simp only [bIns]
     split
     · simp
     · intro h
       rcases List.mem_cons.1 h with rfl | h
       · exact .inr (by simp)
       · rcases ih h with h | h
         · exact .inl h
         · exact .inr (List.mem_cons_of_mem _ h)
 rcases h0 _ h with h | h
 · exact .inl h
 · unfold bDel at h
   exact .inr (List.mem_filter.1 h).1
structure Dv where
 sure : List Blk
 dm : List (Int × Blk)
 stops : Bool
 left : Int
 wr : Int
 fl : Int
structure OkD (D : Dv) : Prop where
 sure : ∀ b ∈ D.sure, b.length = 64
 dm : ∀ p ∈ D.dm, 0 ≤ p.1 ∧ p.1 < D.sure.length ∧ p.2.length = 64
 left : -9223372036854775808 ≤ D.left ∧ D.left ≤ 9223372036854775807
 wr : -9223372036854775808 ≤ D.wr ∧ D.wr ≤ 9223372036854775807
 fl : -9223372036854775808 ≤ D.fl ∧ D.fl ≤ 9223372036854775807
def offD (D : Dv) : Bool := D.stops && decide (D.left ≤ 0)
def spendD (D : Dv) : Dv := if D.stops then { D with left := D.left - 1 } else D
def writeD (D : Dv) (i : Int) (b : Blk) : Dv × Int :=
 if i < 0 ∨ (D.sure.length : Int) ≤ i ∨ b.length ≠ 64 then (D, 1) else if offD D then (D, 30) else ({ spendD D with dm := bPut D.dm i b, wr := wrap64 (D.wr + 1) }, 0)
def lastD (D : Dv) (i : Nat) : Blk := (bGet D.dm i).getD (D.sure.getD i [])
def flushD (D : Dv) : Dv × Int := if offD D then (D, 30) else ({ spendD D with sure := (List.range D.sure.length).map (lastD D), dm := [], fl := wrap64 (D.fl + 1) }, 0)
theorem bGet_mem {m : List (Int × Blk)} {k : Int} {b : Blk} (h : bGet m k = some b) : (k, b) ∈ m := by
 unfold bGet at h; obtain ⟨p, hp, rfl⟩ := Option.map_eq_some_iff.1 h; have h1 := List.find?_some hp; have h2 := List.mem_of_find?_eq_some hp; simp only [decide_eq_true_eq] at h1; subst h1; exact h2
def newD (n : Nat) : Dv := ⟨List.replicate n (List.replicate 64 0), [], false, 0, 0, 0⟩
theorem OkD.new (n : Nat) : OkD (newD n) := by
 refine ⟨fun b hb => ?_, (fun p hp => by simp [newD] at hp), by simp [newD], by simp [newD], by simp [newD]⟩; rw [(List.mem_replicate.1 hb).2]; simp
theorem sure_len {D : Dv} (h : OkD D) {i : Nat} (hi : i < D.sure.length) : (D.sure.getD i []).length = 64 := by
 rw [List.getD_eq_getElem?_getD, List.getElem?_eq_getElem hi]; exact h.sure _ (List.getElem_mem hi)
theorem lastD_len {D : Dv} (h : OkD D) {i : Nat} (hi : i < D.sure.length) : (lastD D i).length = 64 := by
 unfold lastD
 cases hg : bGet D.dm i with
 | none => exact sure_len h hi
 | some b => exact (h.dm _ (bGet_mem hg)).2.2
theorem spendD_left {D : Dv} (h : OkD D) (ho : offD D = false) : -9223372036854775808 ≤ (spendD D).left ∧ (spendD D).left ≤ 9223372036854775807 := by
 have := h.left; unfold offD at ho; unfold spendD
 split
 · rename_i hs
   rw [hs] at ho; simp at ho; dsimp only; omega
 · exact this
theorem spendD_sure (D : Dv) : (spendD D).sure = D.sure := by unfold spendD; split <;> rfl
theorem spendD_dm (D : Dv) : (spendD D).dm = D.dm := by unfold spendD; split <;> rfl
theorem spendD_stops (D : Dv) : (spendD D).stops = D.stops := by unfold spendD; split <;> rfl
theorem spendD_wr (D : Dv) : (spendD D).wr = D.wr := by unfold spendD; split <;> rfl
theorem spendD_fl (D : Dv) : (spendD D).fl = D.fl := by unfold spendD; split <;> rfl
theorem wrap64_bd (x : Int) : -9223372036854775808 ≤ wrap64 x ∧ wrap64 x ≤ 9223372036854775807 := by unfold wrap64; omega
theorem OkD.write {D : Dv} (h : OkD D) (i : Int) (b : Blk) : OkD (writeD D i b).1 := by
 unfold writeD
 split
 · exact h
 · rename_i hc
   split
   · exact h
   · rename_i ho
     have ho : offD D = false := by simpa using ho
     refine ⟨by dsimp only; rw [spendD_sure]; exact h.sure, fun p hp => ?_, spendD_left h ho, wrap64_bd _, by dsimp only; rw [spendD_fl]; exact h.fl⟩; dsimp only at hp ⊢; rw [spendD_sure]; rcases bPut_mem hp with rfl | hp
     · dsimp only
       omega
     · exact h.dm p hp
theorem OkD.flush {D : Dv} (h : OkD D) : OkD (flushD D).1 := by
 unfold flushD
 split
 · exact h
 · rename_i ho
   have ho : offD D = false := by simpa using ho
   refine ⟨fun b hb => ?_, (fun p hp => by cases hp), spendD_left h ho, by dsimp only; rw [spendD_wr]; exact h.wr, wrap64_bd _⟩; dsimp only at hb; obtain ⟨i, hi, rfl⟩ := List.mem_map.1 hb; exact lastD_len h (List.mem_range.1 hi)
structure Rv where
 sure : List Blk
 last : List Blk
 dirty : List Bool
 stops : Bool
 left : Int
 wr : Int
 fl : Int
theorem getD_range {α : Type} (f : Nat → α) (n i : Nat) (hi : i < n) (z : α) : ((List.range n).map f).getD i z = f i := by
 rw [List.getD_eq_getElem?_getD, List.getElem?_map, List.getElem?_range hi]
 rfl
end
end Se
namespace Wa
section
open Go.RowKit Go.Maps
open Ce Se
def tb3 (n : Nat) : List UInt8 := [UInt8.ofNat (n / 65536), UInt8.ofNat (n / 256), UInt8.ofNat n]
def encE (b : List UInt8) : List UInt8 := tb3 b.length ++ b
def strm (L : List (List UInt8)) : List UInt8 := L.flatMap encE
theorem strm_cons (b : List UInt8) (L : List (List UInt8)) : strm (b :: L) = encE b ++ strm L := rfl
theorem strm_snoc (L : List (List UInt8)) (b : List UInt8) : strm (L ++ [b]) = strm L ++ encE b := by simp [strm]
theorem encE_len (b : List UInt8) : (encE b).length = 3 + b.length := by simp [encE, tb3]; omega
def blkOf (p : List UInt8) : Blk := p ++ List.replicate (63 - p.length) 0 ++ [UInt8.ofNat p.length]
theorem blkOf_len {p : List UInt8} (h : p.length ≤ 63) : (blkOf p).length = 64 := by simp [blkOf]; omega
theorem blkOf_nil : blkOf [] = List.replicate 64 0 := by decide
def nch (l : List UInt8) : Nat := (l.length + 62) / 63
def chF (l : List UInt8) (i : Nat) : Blk := blkOf ((l.drop (63 * i)).take 63)
theorem chF_len (l : List UInt8) (i : Nat) : (chF l i).length = 64 := blkOf_len (by rw [List.length_take]; omega)
theorem chF_far {l : List UInt8} {i : Nat} (h : nch l ≤ i) : chF l i = List.replicate 64 0 := by
 unfold nch at h; unfold chF; rw [List.drop_eq_nil_of_le (by omega), List.take_nil, blkOf_nil]
def strmOf : List Blk → List UInt8
 | [] => []
 | b :: r => if (b.getD 63 0).toNat ≤ 63 then b.take (b.getD 63 0).toNat ++ (if (b.getD 63 0).toNat = 63 then strmOf r else []) else []
theorem strmOf_len : ∀ (l : List Blk), (strmOf l).length ≤ 63 * l.length
 | [] => by simp [strmOf]
 | b :: r => by
   have ih := strmOf_len r; simp only [strmOf, List.length_cons]
   split
   · rw [List.length_append, List.length_take]
     split
     · omega
     · rw [List.length_nil]; omega
   · rw [List.length_nil]; omega
def entP (b : List UInt8) : List (List UInt8) :=
 if _h : b.length < 3 then [] else if be (b.take 3) > 65536 ∨ be (b.take 3) > (b.drop 3).length then [] else (b.drop 3).take (be (b.take 3)) :: entP ((b.drop 3).drop (be (b.take 3)))
termination_by b.length
decreasing_by simp only [List.length_drop]; omega
theorem entP_short {b : List UInt8} (h : b.length < 3) : entP b = [] := by rw [entP, dif_pos h]
theorem entP_bad {b : List UInt8} (h : ¬ b.length < 3) (h2 : be (b.take 3) > 65536 ∨ be (b.take 3) > (b.drop 3).length) : entP b = [] := by rw [entP, dif_neg h, if_pos h2]
theorem entP_more {b : List UInt8} (h : ¬ b.length < 3) (h2 : ¬ (be (b.take 3) > 65536 ∨ be (b.take 3) > (b.drop 3).length)) : entP b = (b.drop 3).take (be (b.take 3)) :: entP ((b.drop 3).drop (be (b.take 3))) := by rw [entP, dif_neg h, if_neg h2]
theorem entP_fits : ∀ (k : Nat) (b : List UInt8), b.length ≤ k → (strm (entP b)).length ≤ b.length ∧ ∀ e ∈ entP b, e.length ≤ 65536
 | k, b, hk => by
   by_cases h : b.length < 3
   · rw [entP_short h]
     simp [strm]
   · by_cases h2 : be (b.take 3) > 65536 ∨ be (b.take 3) > (b.drop 3).length
     · rw [entP_bad h h2]
       simp [strm]
     · rw [entP_more h h2, strm_cons]
       have hl : (b.drop 3).length = b.length - 3 := List.length_drop
       cases k with
       | zero => omega
       | succ k =>
         obtain ⟨i1, i2⟩ := entP_fits k ((b.drop 3).drop (be (b.take 3))) (by rw [List.length_drop]; omega); rw [List.length_drop] at i1; refine ⟨?_, fun e he => ?_⟩
         · rw [List.length_append, encE_len, List.length_take]
           omega
         · rcases List.mem_cons.1 he with rfl | he
           · rw [List.length_take]; omega
           · exact i2 e he
def be8 (g : Int) : List UInt8 := (List.range 8).map fun i => UInt8.ofNat ((g % 18446744073709551616).toNat / 256 ^ (7 - i) % 256)
def h32 (g : Int) (half : Nat) : List UInt8 := be8 g ++ (UInt8.ofNat half :: List.replicate 23 0)
def headB (g : Int) (half : Nat) : Blk := h32 g half ++ h32 g half
theorem be8_len (g : Int) : (be8 g).length = 8 := by simp [be8]
theorem h32_len (g : Int) (half : Nat) : (h32 g half).length = 32 := by simp [h32, be8_len]
theorem headB_len (g : Int) (half : Nat) : (headB g half).length = 64 := by simp [headB, h32_len]
def isHd (b : Blk) (i : Nat) : Int × Nat :=
 if toI (be (b.take 8)) < 1 ∨ toI (be (b.take 8)) % 2 ≠ i ∨ (b.getD 8 0).toNat > 1 ∨ headB (toI (be (b.take 8))) (b.getD 8 0).toNat ≠ b then (0, 0) else (toI (be (b.take 8)), (b.getD 8 0).toNat)
theorem isHd_zero (i : Nat) : isHd (List.replicate 64 0) i = (0, 0) := by
 unfold isHd; rw [if_pos]
 left
 decide
theorem toI_bd {u : Nat} (h : u < 18446744073709551616) : -9223372036854775808 ≤ toI u ∧ toI u < 9223372036854775808 := by unfold toI; split <;> omega
theorem isHd_bd (b : Blk) (i : Nat) : 0 ≤ (isHd b i).1 ∧ (isHd b i).2 ≤ 1 := by
 unfold isHd
 split
 · simp
 · rename_i h
   simp only [not_or] at h; dsimp only; omega
end
end Wa
end Go.Proofs.YtgcnhmjpfbbfcaaGreat
