/-
  words for memory: a slice value that reads as a list of cells; append onto a row of the call's own from such a slice.
  cells of numbers, in plain words: a number's bytes, and the number with whose cell bytes begin.
  cells of numbers: how many bits a number has.
-/
import Derived.Test.YteiniahikhiadaaRows
import Derived.WalkKit
import Derived.WalkSpells
import Derived.WalkLawsBesides
import Derived.Maps.AppendAt
import Derived.OwnWalkIn
import Derived.Deep.Draws
import Derived.Lib.Hide

set_option linter.unusedVariables false
set_option linter.unusedSimpArgs false
namespace Go.Proofs.Yteiniahikhiadaa
open Go.RowKit

/-- the value v is a slice of n elements, and its cells (size of them an element) are xs, in a block from lo on and below B -/
structure Sl (w : World) (lo B size : Nat) (v : Value) (n : Nat) (xs : List Value) : Prop where
  len : xs.length = n * size
  at_ : ∃ A c, v = .slice A n c ∧ n ≤ c ∧ c ≤ maxLen ∧ (0 < n → ∃ b o, A = some ⟨b, o, none⟩ ∧ lo ≤ b ∧ b < B ∧ ∀ j, j < n * size → w.cell? ⟨b, o + j, none⟩ = xs[j]?)

section
variable {w w' : World} {lo lo' B B' size n : Nat} {v : Value} {xs : List Value}
/-- what was known of the cells of the blocks from lo to B is known still -/
theorem Sl.keep (h : Sl w lo B size v n xs) (hk : ∀ b o, lo ≤ b → b < B → w'.cell? ⟨b, o, none⟩ = w.cell? ⟨b, o, none⟩) : Sl w' lo B size v n xs := by
  refine ⟨h.len, ?_⟩
  obtain ⟨A, c, e, h1, h2, h3⟩ := h.at_
  refine ⟨A, c, e, h1, h2, fun hn => ?_⟩
  obtain ⟨b, o, ea, hl, hb2, hc⟩ := h3 hn
  exact ⟨b, o, ea, hl, hb2, fun j hj => (hk b _ hl hb2).trans (hc j hj)⟩
theorem Sl.wide (h : Sl w lo B size v n xs) (hl : lo' ≤ lo) (hB : B ≤ B') : Sl w lo' B' size v n xs := by
  refine ⟨h.len, ?_⟩
  obtain ⟨A, c, e, h1, h2, h3⟩ := h.at_
  refine ⟨A, c, e, h1, h2, fun hn => ?_⟩
  obtain ⟨b, o, ea, hl', hb2, hc⟩ := h3 hn
  exact ⟨b, o, ea, by omega, by omega, hc⟩
theorem Sl.below (h : Sl w lo B size v n xs) (hb : Below B w w') : Sl w' lo B size v n xs := h.keep fun b o _ h2 => hb.cell (p := ⟨b, o, none⟩) h2
theorem Sl.mono (h : Sl w lo B size v n xs) (hb : Below B w w') (hB : B ≤ B') : Sl w' lo B' size v n xs := (h.below hb).wide (Nat.le_refl _) hB
theorem Sl.grown {row : Option Nat} (h : Sl w lo B size v n xs) (hg : w.grownBy w' row) (hB : B ≤ w.heap.size) (hr : ∀ k, row = some k → k < lo ∨ B ≤ k) : Sl w' lo B size v n xs :=
  h.keep fun b o h1 h2 => World.cell?_of_block (w := w) (hg.block b (by omega) (fun e => by have := hr b e.symm; omega))
theorem Sl.nil (w : World) (lo B size : Nat) : Sl w lo B size (.slice none 0 0) 0 [] := ⟨by simp, none, 0, rfl, by omega, by unfold maxLen; omega, fun h => by omega⟩
theorem Sl.of_own {e : TypeId} (h : w.ownsRow lo e size v n xs) : Sl w lo w.heap.size size v n xs := by
  refine ⟨h.1, ?_⟩
  rcases h.2 with ⟨rfl, rfl⟩ | ⟨g, cap, cur, rfl, hbg, hg, hnc, hcm, hcs, htake⟩
  · exact ⟨none, 0, rfl, by omega, by unfold maxLen; omega, fun h => by omega⟩
  · refine ⟨_, cap, rfl, hnc, hcm, fun _ => ⟨g, 0, rfl, hbg, (Array.getElem?_eq_some_iff.1 hg).1, fun j hj => ?_⟩⟩
    rw [← htake, List.getElem?_take, if_pos hj, Array.getElem?_toList]
    simp [World.cell?, hg]
end

/-- append onto a row of the call's own, from a slice that is known -/
theorem run_append_sl {P : Program} (w : World) (base : Nat) (t ty e : TypeId) (i : TypeInfo) (z : Value) (size bytes : Nat) (ht : P.underlying t = some (.slice e)) (hi : P.info? e = some i) (hz : i.zero = some z)
    (hsize : i.size = size) (hby : i.bytes = bytes) (hzs : z.cells.size = size) (hsz : 0 < size)
    (v : Value) (n : Nat) (xs : List Value) (hown : w.ownsRow base e size v n xs)
    (lo B : Nat) (u : Value) (m : Nat) (ys : List Value) (hu : Sl w lo B size u m ys) (h1 : ∀ y ∈ ys, y.oneCell' = true)
    (h63 : n + m ≤ maxLen) (hbytes : (n + m) * bytes ≤ 140737488355328) (hbase : base ≤ w.heap.size) :
    ∃ v' w', (Builtin.append_ #[t, t] ty #[v, u]).run P w = .ok v' w' ∧ w'.ownsRow base e size v' (n + m) (xs ++ ys) ∧ w.grownBy w' v.ownBlock ∧
      (v'.ownBlock = v.ownBlock ∨ v'.ownBlock = some w.heap.size) := by
  obtain ⟨A, c, rfl, hc1, hc2, hc3⟩ := hu.at_
  rcases Nat.eq_zero_or_pos m with hm | hm
  · subst hm
    obtain rfl : ys = [] := List.eq_nil_of_length_eq_zero (by simpa using hu.len)
    rcases A with _ | ad
    · refine ⟨v, w, ?_, by simpa using hown, World.grownBy.refl w _, .inl rfl⟩
      rcases hown.2 with ⟨rfl, rfl⟩ | ⟨g, cap, cur, rfl, _, _, hnc, _⟩
      · simp [Builtin.append_, run_underlying ht, sizeOf, typeInfo, hi, Builtin.lenOf, Builtin.firstCells]
      · simp [Builtin.append_, run_underlying ht, sizeOf, typeInfo, hi, Builtin.lenOf, Builtin.firstCells, hnc, storeCells]
    · obtain ⟨v', w', q1, q2, q3, _, q5⟩ := run_append_own_at (P := P) w base t ty e i z size bytes ht hi hz hsize hby hzs hsz v n xs hown ad 0 c [] (by simp) (by simp) (by simp) h63 hbytes hbase
      exact ⟨v', w', q1, q2, q3, q5⟩
  · obtain ⟨b, o, rfl, _, _, hc⟩ := hc3 hm
    obtain ⟨v', w', q1, q2, q3, _, q5⟩ := run_append_own_at (P := P) w base t ty e i z size bytes ht hi hz hsize hby hzs hsz v n xs hown ⟨b, o, none⟩ m c ys hu.len
      (fun j y hy => by
        have hj : j < ys.length := (List.getElem?_eq_some_iff.1 hy).1
        have e1 : (⟨b, o, none⟩ : Addr).add j = ⟨b, o + j, none⟩ := by unfold Addr.add; split <;> simp_all
        rw [e1, hc j (by rw [← hu.len]; exact hj), hy]) h1 h63 hbytes hbase
    exact ⟨v', w', q1, q2, q3, q5⟩

section
variable {P : Program} (w : World) {ops : Array Oper} {rest : List Oper} {o : Oper} {a : Act} {Q : Exit → Act → World → Prop}
theorem wpList_append_sl (hgd : o.guard = none) (s x : Operand) (t : TypeId)
    (ho : o.op = .call { callee := .builtin .append, args := #[s, x], argTypes := #[t, t] })
    (base : Nat) (e : TypeId) (i : TypeInfo) (z : Value) (size bytes : Nat) (ht : P.underlying t = some (.slice e)) (hi : P.info? e = some i) (hz : i.zero = some z)
    (hsize : i.size = size) (hby : i.bytes = bytes) (hzs : z.cells.size = size) (hsz : 0 < size)
    (v : Value) (n : Nat) (xs : List Value) (hs : a.eval s = v) (hown : w.ownsRow base e size v n xs)
    (lo B : Nat) (u : Value) (m : Nat) (ys : List Value) (hx : a.eval x = u) (hu : Sl w lo B size u m ys) (h1 : ∀ y ∈ ys, y.oneCell' = true)
    (h63 : n + m ≤ maxLen) (hbytes : (n + m) * bytes ≤ 140737488355328) (hbase : base ≤ w.heap.size)
    (h : ∀ v' w', w'.ownsRow base e size v' (n + m) (xs ++ ys) → w.grownBy w' v.ownBlock → (v'.ownBlock = v.ownBlock ∨ v'.ownBlock = some w.heap.size) → wpList P ops Q rest (a.put o.dst v') w') :
    wpList P ops Q (o :: rest) a w :=
  wpList_plain hgd fun K hK => by
    obtain ⟨v', w', hrun, h2, h3, h4⟩ := run_append_sl (P := P) w base t o.type e i z size bytes ht hi hz hsize hby hzs hsz v n xs hown lo B u m ys hu h1 h63 hbytes hbase
    unfold Oper.wp execOp
    simp only [ho, resolve, invoke, builtin, Sem.run_bind, Sem.run_pure, Result.andThen_ok, List.map_toArray, List.map_cons, List.map_nil, hs, hx, hrun]
    exact hK _ _ (h v' w' h2 h3 h4)
theorem wpListIn_append_sl {F : Fence} {N : Nat} (hgd : o.guard = none) (s x : Operand) (t : TypeId)
    (hop : o.op = .call { callee := .builtin .append, args := #[s, x], argTypes := #[t, t] })
    (base : Nat) (e : TypeId) (i : TypeInfo) (z : Value) (size bytes : Nat) (ht : P.underlying t = some (.slice e)) (hi : P.info? e = some i) (hz : i.zero = some z)
    (hsize : i.size = size) (hby : i.bytes = bytes) (hzs : z.cells.size = size) (hsz : 0 < size)
    (v : Value) (n : Nat) (xs : List Value) (hs : a.eval s = v) (hown : w.ownsRow base e size v n xs)
    (lo B : Nat) (u : Value) (m : Nat) (ys : List Value) (hx : a.eval x = u) (hu : Sl w lo B size u m ys) (h1 : ∀ y ∈ ys, y.oneCell' = true)
    (h63 : n + m ≤ maxLen) (hbytes : (n + m) * bytes ≤ 140737488355328) (hbase : base ≤ w.heap.size)
    (h : ∀ v' w', w'.ownsRow base e size v' (n + m) (xs ++ ys) → w.grownBy w' v.ownBlock → (v'.ownBlock = v.ownBlock ∨ v'.ownBlock = some w.heap.size) → wpListIn F N P ops Q rest (a.put o.dst v') w') :
    wpListIn F N P ops Q (o :: rest) a w :=
  wpListIn_plain hgd fun K hK => by
    obtain ⟨v', w', hrun, h2, h3, h4⟩ := run_append_sl (P := P) w base t o.type e i z size bytes ht hi hz hsize hby hzs hsz v n xs hown lo B u m ys hu h1 h63 hbytes hbase
    unfold Oper.wpIn
    refine ⟨?_, ?_⟩
    · simp [Oper.about, hop, resolve, Target.leads, Sem.run_pure]
    · rw [Oper.semAt_plain F _ _ (by rw [hop]; intro c hc'; cases hc')]
      simp [execOp, hop, resolve, invoke, builtin, hs, hx, hrun, Result.andThen]
      exact hK _ _ (h v' w' h2 h3 h4)
end

/-- a slice of ints -/
def ints (l : List Int) : List Value := l.map (Value.int .i64)
theorem ints_one (l : List Int) : ∀ y ∈ ints l, y.oneCell' = true := by
  intro y hy
  obtain ⟨x, _, rfl⟩ := List.mem_map.1 hy
  rfl
theorem ints_append (a b : List Int) : ints (a ++ b) = ints a ++ ints b := by simp [ints]
theorem ints_length (a : List Int) : (ints a).length = a.length := by simp [ints]
def IntsAt (w : World) (lo B : Nat) (v : Value) (l : List Int) : Prop := Sl w lo B 1 v l.length (ints l)
section
variable {w w' : World} {lo lo' B B' : Nat} {v : Value} {l : List Int}
theorem IntsAt.mono (h : IntsAt w lo B v l) (hb : Below B w w') (hB : B ≤ B') : IntsAt w' lo B' v l := Sl.mono h hb hB
theorem IntsAt.wide (h : IntsAt w lo B v l) (hl : lo' ≤ lo) (hB : B ≤ B') : IntsAt w lo' B' v l := Sl.wide h hl hB
theorem IntsAt.nil (w : World) (lo B : Nat) : IntsAt w lo B (.slice none 0 0) [] := Sl.nil w lo B 1
theorem IntsAt.form (h : IntsAt w lo B v l) :
    ∃ A c, v = .slice A l.length c ∧ l.length ≤ c ∧ c ≤ maxLen ∧ (0 < l.length → ∃ b o, A = some ⟨b, o, none⟩ ∧ lo ≤ b ∧ b < B ∧ ∀ j, j < l.length → w.cell? ⟨b, o + j, none⟩ = some (.int .i64 (l.getD j 0))) := by
  obtain ⟨A, c, e, h1, h2, h3⟩ := h.at_
  refine ⟨A, c, e, h1, h2, fun hn => ?_⟩
  obtain ⟨b, o, ea, hl, hb2, hc⟩ := h3 hn
  refine ⟨b, o, ea, hl, hb2, fun j hj => ?_⟩
  rw [hc j (by omega)]
  simp [ints, hj]
theorem IntsAt.of_own {e : TypeId} {n : Nat} (h : w.ownsRow lo e 1 v n (ints l)) : IntsAt w lo w.heap.size v l := by
  have hn : n = l.length := by have := h.1; simpa [ints] using this.symm
  subst hn
  exact Sl.of_own h
end
theorem IntsAt.cellAt {w : World} {lo B j n c : Nat} {A : Option Addr} {l : List Int} (h : IntsAt w lo B (.slice A n c) l) (hj : j < l.length) :
    ∃ b o, A = some ⟨b, o, none⟩ ∧ lo ≤ b ∧ b < B ∧ w.cell? ⟨b, o + j, none⟩ = some (.int .i64 (l.getD j 0)) := by
  obtain ⟨A', c', e, _, _, h3⟩ := h.form
  cases e
  obtain ⟨b, o, e1, e2, e3, e4⟩ := h3 (by omega)
  exact ⟨b, o, e1, e2, e3, e4 j hj⟩
/-- a slice literal -/
theorem Sl.new (w : World) (cs : Array Value) (t : TypeId) {size n : Nat} (h : cs.size = n * size) (hn : n ≤ maxLen) :
    Sl (w.alloc (.cells cs t)) w.heap.size (w.heap.size + 1) size (.slice (some ⟨w.heap.size, 0, none⟩) n n) n cs.toList := by
  refine ⟨by simpa using h, _, n, rfl, Nat.le_refl _, hn, fun _ => ⟨w.heap.size, 0, rfl, Nat.le_refl _, by omega, fun j _ => ?_⟩⟩
  unfold World.cell?
  rw [heap_alloc_new]
  simp
/-- a new block whose first cells are ints -/
theorem ownsRow_cells {w : World} {lo b n c : Nat} {t : TypeId} {cs : Array Value} {xs : List Int} (h : w.heap[b]? = some (.cells cs t (0, 0))) (hlo : lo ≤ b) (hn : n = xs.length) (h1 : n ≤ c) (h2 : c ≤ maxLen) (hs : cs.size = c)
    (hp : cs.toList.take xs.length = ints xs) : w.ownsRow lo t 1 (.slice (some ⟨b, 0, none⟩) n c) n (ints xs) :=
  ⟨by simp [ints, hn], .inr ⟨b, c, cs, rfl, hlo, h, h1, h2, by simpa using hs, by rw [hn, Nat.mul_one]; exact hp⟩⟩
theorem heap_one (w : World) (o : Obj) : (w.alloc o).heap[w.heap.size]? = some o := heap_alloc_new w o
theorem heap_two (w : World) (o o2 : Obj) : ((w.alloc o).alloc o2).heap[w.heap.size + 1]? = some o2 := by
  have := heap_alloc_new (w.alloc o) o2; rwa [World.size_alloc] at this
theorem heap_three (w : World) (o o2 o3 : Obj) : (((w.alloc o).alloc o2).alloc o3).heap[w.heap.size + 1 + 1]? = some o3 := by
  have := heap_alloc_new ((w.alloc o).alloc o2) o3; rwa [World.size_alloc, World.size_alloc] at this
theorem heap_two_one (w : World) (o o2 : Obj) : ((w.alloc o).alloc o2).heap[w.heap.size]? = some o :=
  (Below.heap_alloc _ _ _ (by simp)).trans (heap_one w o)

theorem only_of_below {a w : World} (h : Below a.heap.size a w) (row : Option Nat) : a.grownBy w row := ⟨h.os, h.tape, h.output, h.size, fun i hi _ => h.block i hi⟩
theorem ownsRow_below {w w' : World} {lo : Nat} {e size n} {v : Value} {xs : List Value} (h : w.ownsRow lo e size v n xs) (hb : Below w.heap.size w w') : w'.ownsRow lo e size v n xs :=
  h.kept (only_of_below hb none) (by cases hv : v.ownBlock <;> simp)

theorem ret1 {a b : Value} (h : a = b) : Ending.returned a = .returned b := by rw [h]
theorem ret2 {a b : Value} {c d : Value} (h1 : a = c) (h2 : b = d) : Ending.returned (.tuple #[a, b]) = .returned (.tuple #[c, d]) := by rw [h1, h2]
theorem ret3 {a b a' b' c d : Value} (h1 : a = c) (h2 : b = d) (h3 : a' = b') : Ending.returned (.tuple #[a, b, a']) = .returned (.tuple #[c, d, b']) := by rw [h1, h2, h3]
theorem num {a b : Int} (h : a = b) : Value.int .i64 a = .int .i64 b := by rw [h]
theorem boo {a b : Bool} (h : a = b) : Value.bool a = .bool b := by rw [h]
theorem snoc_all {p : Nat → Prop} {k : Nat} (h : ∀ j, j < k → p j) (hk : p k) : ∀ j, j < k + 1 → p j := fun j hj => by
  rcases Nat.lt_or_ge j k with h1 | h1
  · exact h j h1
  · obtain rfl : j = k := by omega
    exact hk
end Go.Proofs.Yteiniahikhiadaa

namespace Go.Proofs.Yteiniahikhiadaa
open Go.RowKit
namespace Ce

/-- bytes, the highest first, as a number -/
def be (l : List UInt8) : Nat := l.foldl (fun u c => u * 256 + c.toNat) 0
theorem be_snoc (l : List UInt8) (c : UInt8) : be (l ++ [c]) = be l * 256 + c.toNat := by simp [be]
theorem be_lt : ∀ (n : Nat) (l : List UInt8), l.length = n → be l < 256 ^ n
  | 0, l, h => by rw [List.eq_nil_of_length_eq_zero h]; simp [be]
  | n + 1, l, h => by
    have hne : l ≠ [] := fun e => by rw [e] at h; simp at h
    obtain ⟨r, c, rfl⟩ : ∃ r c, l = r ++ [c] := ⟨l.dropLast, l.getLast hne, (List.dropLast_concat_getLast hne).symm⟩
    have ih := be_lt n r (by simpa using h)
    rw [be_snoc, Nat.pow_succ]
    have := c.toNat_lt
    omega

def digF : Nat → Nat → List UInt8
  | 0, _ => []
  | k + 1, u => if u = 0 then [] else digF k (u / 256) ++ [UInt8.ofNat (u % 256)]
/-- a number's bytes, the highest first, without noughts ahead -/
def dig (u : Nat) : List UInt8 := digF 8 u
theorem byte_toNat (u : Nat) : (UInt8.ofNat (u % 256)).toNat = u % 256 := by simp
theorem be_digF : ∀ (k u : Nat), u < 256 ^ k → be (digF k u) = u
  | 0, u, h => by simp at h; subst h; rfl
  | k + 1, u, h => by
    unfold digF
    split
    · rename_i h0; rw [h0]; rfl
    · rw [be_snoc, be_digF k (u / 256) (by rw [Nat.pow_succ] at h; exact Nat.div_lt_of_lt_mul (by omega)), byte_toNat]
      omega
theorem digF_more : ∀ (k u : Nat), u < 256 ^ k → digF (k + 1) u = digF k u
  | 0, u, h => by simp at h; subst h; rfl
  | k + 1, u, h => by
    rw [digF]
    by_cases h0 : u = 0
    · rw [if_pos h0, digF, if_pos h0]
    · rw [if_neg h0, digF_more k (u / 256) (by rw [Nat.pow_succ] at h; exact Nat.div_lt_of_lt_mul (by omega)), digF, if_neg h0]
theorem be_dig {u : Nat} (h : u < 18446744073709551616) : be (dig u) = u := be_digF 8 u h
theorem dig_zero : dig 0 = [] := rfl
theorem dig_pos {u : Nat} (h0 : u ≠ 0) (h : u < 18446744073709551616) : dig u = dig (u / 256) ++ [UInt8.ofNat (u % 256)] := by
  unfold dig
  have h7 : u / 256 < 256 ^ 7 := by
    have : (256 : Nat) ^ 7 = 72057594037927936 := by decide
    omega
  rw [digF, if_neg h0, digF_more 7 (u / 256) h7]
theorem digF_len : ∀ (k u n : Nat), n ≤ k → u < 256 ^ n → (digF k u).length ≤ n
  | 0, u, n, h, _ => by simp [digF]
  | k + 1, u, n, h, hu => by
    unfold digF
    split
    · simp
    · rename_i h0
      cases n with
      | zero => simp at hu; omega
      | succ n =>
        have := digF_len k (u / 256) n (by omega) (by rw [Nat.pow_succ] at hu; exact Nat.div_lt_of_lt_mul (by omega))
        simp; omega
theorem dig_len {u n : Nat} (hn : n ≤ 8) (h : u < 256 ^ n) : (dig u).length ≤ n := digF_len 8 u n hn h
theorem dig_len8 (u : Nat) : (dig u).length ≤ 8 := by
  by_cases h : u < 256 ^ 8
  · exact dig_len (Nat.le_refl _) h
  · have : ∀ (k u : Nat), (digF k u).length ≤ k := by
      intro k
      induction k with
      | zero => intro u; simp [digF]
      | succ k ih => intro u; unfold digF; split; · simp
                     · have := ih (u / 256); simp; omega
    exact this 8 u
theorem dig_ge {u : Nat} (h : u < 18446744073709551616) : u < 256 ^ (dig u).length := by
  have := be_lt _ (dig u) rfl
  rwa [be_dig h] at this
/-- the digit at a place -/
theorem dig_get : ∀ (n u : Nat), n ≤ 8 → (dig u).length = n → u < 18446744073709551616 → ∀ j, j < n → (dig u)[j]? = some (UInt8.ofNat (u / 256 ^ (n - 1 - j) % 256))
  | 0, _, _, _, _, j, h => by omega
  | n + 1, u, hn, hl, hu, j, hj => by
    have h0 : u ≠ 0 := fun e => by rw [e, dig_zero] at hl; simp at hl
    rw [dig_pos h0 hu] at hl ⊢
    have hl' : (dig (u / 256)).length = n := by simpa using hl
    rcases Nat.lt_or_ge j n with h | h
    · rw [List.getElem?_append_left (by omega), dig_get n (u / 256) (by omega) hl' (by omega) j h, Nat.div_div_eq_div_mul, ← Nat.pow_succ', show (n - 1 - j).succ = n + 1 - 1 - j by omega]
    · obtain rfl : j = n := by omega
      rw [List.getElem?_append_right (by omega), hl']
      simp

/-- a number's cell -/
def numC (n : Int) : List UInt8 :=
  if 0 ≤ n ∧ n < 128 then [UInt8.ofNat n.toNat]
  else if n < 0 then UInt8.ofNat (144 + (dig (-1 - n).toNat).length) :: dig (-1 - n).toNat
  else UInt8.ofNat (128 + (dig n.toNat).length) :: dig n.toNat
theorem numC_small {n : Int} (h : 0 ≤ n ∧ n < 128) : numC n = [UInt8.ofNat n.toNat] := by unfold numC; rw [if_pos h]
theorem numC_neg {n : Int} (h : n < 0) : numC n = UInt8.ofNat (144 + (dig (-1 - n).toNat).length) :: dig (-1 - n).toNat := by
  unfold numC; rw [if_neg (by omega), if_pos h]
theorem numC_big {n : Int} (h : 128 ≤ n) : numC n = UInt8.ofNat (128 + (dig n.toNat).length) :: dig n.toNat := by
  unfold numC; rw [if_neg (by omega), if_neg (by omega)]
theorem numC_len (n : Int) : 1 ≤ (numC n).length ∧ (numC n).length ≤ 9 := by
  unfold numC
  split
  · simp
  · split
    · have := dig_len8 (-1 - n).toNat; simp; omega
    · have := dig_len8 n.toNat; simp; omega

def toI (u : Nat) : Int := if u < 9223372036854775808 then u else (u : Int) - 18446744073709551616
def flip (u : Nat) : Nat := 18446744073709551615 - u
/-- the number with whose cell bytes begin, and the cell's length -/
def sizeOf_ (h : UInt8) : Nat := if 144 ≤ h.toNat then h.toNat - 144 else h.toNat - 128
def valOf (h : UInt8) (l : List UInt8) : Int := toI (if 144 ≤ h.toNat then flip (be l) else be l)
def firstC : List UInt8 → Option (Int × Nat)
  | [] => none
  | h :: t => if h.toNat < 128 then some (h.toNat, 1) else
    if 8 < sizeOf_ h ∨ t.length < sizeOf_ h then none else
    if numC (valOf h (t.take (sizeOf_ h))) = h :: t.take (sizeOf_ h) then some (valOf h (t.take (sizeOf_ h)), 1 + sizeOf_ h) else none
theorem firstC_cons (h : UInt8) (t : List UInt8) : firstC (h :: t) = if h.toNat < 128 then some ((h.toNat : Int), 1) else
    if 8 < sizeOf_ h ∨ t.length < sizeOf_ h then none else
    if numC (valOf h (t.take (sizeOf_ h))) = h :: t.take (sizeOf_ h) then some (valOf h (t.take (sizeOf_ h)), 1 + sizeOf_ h) else none := rfl
theorem toI_range {u : Nat} (h : u < 18446744073709551616) : -9223372036854775808 ≤ toI u ∧ toI u ≤ 9223372036854775807 := by unfold toI; split <;> omega
theorem be_take_lt (t : List UInt8) {k : Nat} (hk : k ≤ 8) : be (t.take k) < 18446744073709551616 := by
  have h1 := be_lt _ (t.take k) rfl
  have h2 : (t.take k).length ≤ 8 := by rw [List.length_take]; omega
  have h3 : 256 ^ (t.take k).length ≤ 256 ^ 8 := Nat.pow_le_pow_right (by omega) h2
  exact Nat.lt_of_lt_of_le h1 (Nat.le_trans h3 (by decide))
theorem valOf_range (h : UInt8) (t : List UInt8) {k : Nat} (hk : k ≤ 8) : -9223372036854775808 ≤ valOf h (t.take k) ∧ valOf h (t.take k) ≤ 9223372036854775807 := by
  have := be_take_lt t hk
  unfold valOf
  refine toI_range ?_
  split
  · unfold flip; omega
  · exact this
theorem firstC_some {b : List UInt8} {n : Int} {k : Nat} (h : firstC b = some (n, k)) : numC n = b.take k ∧ 1 ≤ k ∧ k ≤ b.length ∧ k ≤ 9 ∧ -9223372036854775808 ≤ n ∧ n ≤ 9223372036854775807 := by
  cases b with
  | nil => cases h
  | cons c t =>
    rw [firstC_cons] at h
    by_cases hc : c.toNat < 128
    · rw [if_pos hc] at h
      simp only [Option.some.injEq, Prod.mk.injEq] at h
      obtain ⟨rfl, rfl⟩ := h
      refine ⟨?_, by omega, by simp, by omega, by omega, by omega⟩
      rw [numC_small ⟨by omega, by omega⟩]
      simp
    · rw [if_neg hc] at h
      by_cases hs : 8 < sizeOf_ c ∨ t.length < sizeOf_ c
      · rw [if_pos hs] at h; cases h
      · rw [if_neg hs] at h
        by_cases hn : numC (valOf c (t.take (sizeOf_ c))) = c :: t.take (sizeOf_ c)
        · rw [if_pos hn] at h
          simp only [Option.some.injEq, Prod.mk.injEq] at h
          obtain ⟨rfl, rfl⟩ := h
          have hr := valOf_range c t (k := sizeOf_ c) (by omega)
          refine ⟨?_, by omega, by simp; omega, by omega, hr.1, hr.2⟩
          rw [hn, show 1 + sizeOf_ c = sizeOf_ c + 1 by omega, List.take_succ_cons]
        · rw [if_neg hn] at h; cases h
theorem toNat_ofNat {n : Nat} (h : n < 256) : (UInt8.ofNat n).toNat = n := by simp; omega
/-- a cell is read as its number, whatever stands behind it -/
theorem firstC_numC {n : Int} (h1 : -9223372036854775808 ≤ n) (h2 : n ≤ 9223372036854775807) (r : List UInt8) : firstC (numC n ++ r) = some (n, (numC n).length) := by
  by_cases hs : 0 ≤ n ∧ n < 128
  · rw [numC_small hs]
    rw [List.cons_append, firstC_cons, toNat_ofNat (by omega), if_pos (by omega)]
    simp; omega
  · have key : ∀ (hd : UInt8) (u : Nat), numC n = hd :: dig u → hd.toNat ≥ 128 → sizeOf_ hd = (dig u).length → u < 18446744073709551616 → valOf hd (dig u) = n → firstC (numC n ++ r) = some (n, (numC n).length) := by
      intro hd u e hh hz hu hv
      rw [e, List.cons_append, firstC_cons]
      have h8 := dig_len8 u
      have ht : (dig u ++ r).take (sizeOf_ hd) = dig u := by rw [hz, List.take_left]
      rw [if_neg (by omega), if_neg (by rw [hz]; simp; omega), ht, hv, if_pos e, hz, List.length_cons, Nat.add_comm]
    by_cases hn : n < 0
    · have hu : (-1 - n).toNat < 9223372036854775808 := by omega
      have h8 := dig_len8 (-1 - n).toNat
      refine key _ _ (numC_neg hn) (by rw [toNat_ofNat (by omega)]; omega) (by unfold sizeOf_; rw [toNat_ofNat (by omega)]; simp) (by omega) ?_
      unfold valOf
      rw [toNat_ofNat (by omega), if_pos (by omega), be_dig (by omega)]
      unfold flip toI
      rw [if_neg (by omega)]
      omega
    · have hu : n.toNat < 9223372036854775808 := by omega
      have h8 := dig_len8 n.toNat
      refine key _ _ (numC_big (by omega)) (by rw [toNat_ofNat (by omega)]; omega) (by unfold sizeOf_; rw [toNat_ofNat (by omega), if_neg (by omega)]; omega) (by omega) ?_
      unfold valOf
      rw [toNat_ofNat (by omega), if_neg (by omega), be_dig (by omega)]
      unfold toI
      rw [if_pos (by omega)]
      omega
end Ce
end Go.Proofs.Yteiniahikhiadaa

namespace Go.Proofs.Yteiniahikhiadaa
open Go.RowKit
namespace Ce

def lt8 : ByteArray := ⟨#[0, 1, 2, 2, 3, 3, 3, 3, 4, 4, 4, 4, 4, 4, 4, 4, 5, 5, 5, 5, 5, 5, 5, 5, 5, 5, 5, 5, 5, 5, 5, 5, 6, 6, 6, 6, 6, 6, 6, 6, 6, 6, 6, 6, 6, 6, 6, 6, 6, 6, 6, 6, 6, 6, 6, 6, 6, 6, 6, 6, 6, 6, 6, 6, 7, 7, 7, 7, 7, 7, 7, 7, 7, 7, 7, 7, 7, 7, 7, 7, 7, 7, 7, 7, 7, 7, 7, 7, 7, 7, 7, 7, 7, 7, 7, 7, 7, 7, 7, 7, 7, 7, 7, 7, 7, 7, 7, 7, 7, 7, 7, 7, 7, 7, 7, 7, 7, 7, 7, 7, 7, 7, 7, 7, 7, 7, 7, 7, 8, 8, 8, 8, 8, 8, 8, 8, 8, 8, 8, 8, 8, 8, 8, 8, 8, 8, 8, 8, 8, 8, 8, 8, 8, 8, 8, 8, 8, 8, 8, 8, 8, 8, 8, 8, 8, 8, 8, 8, 8, 8, 8, 8, 8, 8, 8, 8, 8, 8, 8, 8, 8, 8, 8, 8, 8, 8, 8, 8, 8, 8, 8, 8, 8, 8, 8, 8, 8, 8, 8, 8, 8, 8, 8, 8, 8, 8, 8, 8, 8, 8, 8, 8, 8, 8, 8, 8, 8, 8, 8, 8, 8, 8, 8, 8, 8, 8, 8, 8, 8, 8, 8, 8, 8, 8, 8, 8, 8, 8, 8, 8, 8, 8, 8, 8, 8, 8, 8, 8, 8, 8, 8, 8, 8, 8, 8, 8]⟩
theorem lt8_def : lt8 = ⟨#[0, 1, 2, 2, 3, 3, 3, 3, 4, 4, 4, 4, 4, 4, 4, 4, 5, 5, 5, 5, 5, 5, 5, 5, 5, 5, 5, 5, 5, 5, 5, 5, 6, 6, 6, 6, 6, 6, 6, 6, 6, 6, 6, 6, 6, 6, 6, 6, 6, 6, 6, 6, 6, 6, 6, 6, 6, 6, 6, 6, 6, 6, 6, 6, 7, 7, 7, 7, 7, 7, 7, 7, 7, 7, 7, 7, 7, 7, 7, 7, 7, 7, 7, 7, 7, 7, 7, 7, 7, 7, 7, 7, 7, 7, 7, 7, 7, 7, 7, 7, 7, 7, 7, 7, 7, 7, 7, 7, 7, 7, 7, 7, 7, 7, 7, 7, 7, 7, 7, 7, 7, 7, 7, 7, 7, 7, 7, 7, 8, 8, 8, 8, 8, 8, 8, 8, 8, 8, 8, 8, 8, 8, 8, 8, 8, 8, 8, 8, 8, 8, 8, 8, 8, 8, 8, 8, 8, 8, 8, 8, 8, 8, 8, 8, 8, 8, 8, 8, 8, 8, 8, 8, 8, 8, 8, 8, 8, 8, 8, 8, 8, 8, 8, 8, 8, 8, 8, 8, 8, 8, 8, 8, 8, 8, 8, 8, 8, 8, 8, 8, 8, 8, 8, 8, 8, 8, 8, 8, 8, 8, 8, 8, 8, 8, 8, 8, 8, 8, 8, 8, 8, 8, 8, 8, 8, 8, 8, 8, 8, 8, 8, 8, 8, 8, 8, 8, 8, 8, 8, 8, 8, 8, 8, 8, 8, 8, 8, 8, 8, 8, 8, 8, 8, 8, 8, 8]⟩ := rfl
theorem lt8_size : lt8.size = 256 := by kernel_rfl
theorem lt8_nat : ∀ x, (h : x < 256) → x < 2 ^ (lt8[x]'(by rw [lt8_size]; exact h)).toNat ∧ ((lt8[x]'(by rw [lt8_size]; exact h)).toNat = 0 ∨ 2 ^ ((lt8[x]'(by rw [lt8_size]; exact h)).toNat - 1) ≤ x) ∧ (lt8[x]'(by rw [lt8_size]; exact h)).toNat ≤ 8 := by
  decide +kernel
theorem lt8_int (x : Int) (h0 : 0 ≤ x) (h1 : x < 256) (h : x.toNat < lt8.size) : x < 2 ^ (lt8[x.toNat]'h).toNat ∧ ((lt8[x.toNat]'h).toNat = 0 ∨ 2 ^ ((lt8[x.toNat]'h).toNat - 1) ≤ x) ∧ (lt8[x.toNat]'h).toNat ≤ 8 := by
  obtain ⟨n, rfl⟩ := Int.eq_ofNat_of_zero_le h0
  have := lt8_nat n (by omega)
  simp only [Int.toNat_natCast] at this ⊢
  obtain ⟨a, b, c⟩ := this
  exact ⟨by exact_mod_cast a, by exact_mod_cast b, c⟩
theorem bits_of {u x : Int} {s t : Nat} (hx : x = u / 2 ^ s) (h1 : x < 2 ^ t) (h2 : t = 0 ∨ 2 ^ (t - 1) ≤ x) (h3 : s = 0 ∨ 1 ≤ x) : u < 2 ^ (s + t) ∧ (s + t = 0 ∨ 2 ^ (s + t - 1) ≤ u) := by
  have hp : (0 : Int) < 2 ^ s := Int.pow_pos (by omega)
  have e1 : u < (x + 1) * 2 ^ s := by rw [hx]; exact Int.lt_ediv_add_one_mul_self u hp
  have e2 : x * 2 ^ s ≤ u := by rw [hx]; exact Int.ediv_mul_le u (by omega)
  refine ⟨?_, ?_⟩
  · rw [Int.pow_add, Int.mul_comm]
    exact Int.lt_of_lt_of_le e1 (Int.mul_le_mul_of_nonneg_right (by omega) (by omega))
  · rcases h2 with h2 | h2
    · subst h2
      simp at h1
      rcases h3 with h3 | h3
      · exact .inl (by omega)
      · omega
    · rcases Nat.eq_zero_or_pos t with ht | ht
      · subst ht
        simp at h1 h2
        omega
      · right
        rw [show s + t - 1 = (t - 1) + s by omega, Int.pow_add]
        exact Int.le_trans (Int.mul_le_mul_of_nonneg_right h2 (by omega)) e2

theorem wrap_0 (T : Nat) (h : T ≤ 8) : wrap64 (wrap64 (T : Int)) = ((0 + T : Nat) : Int) := by unfold wrap64; omega
theorem wrap_s (s T : Nat) (hs : s ≤ 56) (h : T ≤ 8) : wrap64 ((s : Int) + wrap64 (T : Int)) = ((s + T : Nat) : Int) := by unfold wrap64; omega
set_option maxRecDepth 100000 in
set_option maxHeartbeats 4000000 in
theorem len64_0 (u : Int) (w : World) (h0 : 0 ≤ u) (h1 : u ≤ 18446744073709551615) (h32 : u < 4294967296) (h16 : u < 65536) (h8 : u < 256) :
    Calls Try.prog 111 #[.int .u64 u] w fun e w' => (∃ k : Nat, e = .returned (.int .i64 k) ∧ k ≤ 64 ∧ u < 2 ^ k ∧ (k = 0 ∨ 2 ^ (k - 1) ≤ u)) ∧ w = w' := by
  have _k := And.intro h0 (And.intro h1 (And.intro h32 (And.intro h16 h8)))
  clear _k
  have hT := lt8_int (u) (by omega) (by omega)
  go_enter Try.func111, Try.ntmps111
  go_wp2
  simp only [← lt8_def]
  go_ret
  have hh : (u).toNat < lt8.size := by rw [lt8_size]; omega
  have hT := hT hh
  have hb := bits_of (u := u) (s := 0) (by omega) hT.1 hT.2.1 (by omega)
  exact ⟨⟨0 + (lt8[(u).toNat]'hh).toNat, ret1 (num (wrap_0 _ hT.2.2)), Nat.add_le_add (by omega : 0 ≤ 56) hT.2.2, hb.1, hb.2⟩, rfl⟩
set_option maxRecDepth 100000 in
set_option maxHeartbeats 4000000 in
theorem len64_1 (u : Int) (w : World) (h0 : 0 ≤ u) (h1 : u ≤ 18446744073709551615) (h32 : u < 4294967296) (h16 : u < 65536) (h8 : ¬ u < 256) :
    Calls Try.prog 111 #[.int .u64 u] w fun e w' => (∃ k : Nat, e = .returned (.int .i64 k) ∧ k ≤ 64 ∧ u < 2 ^ k ∧ (k = 0 ∨ 2 ^ (k - 1) ≤ u)) ∧ w = w' := by
  have _k := And.intro h0 (And.intro h1 (And.intro h32 (And.intro h16 h8)))
  clear _k
  have hT := lt8_int (u / 256) (by omega) (by omega)
  go_enter Try.func111, Try.ntmps111
  go_wp2
  simp only [← lt8_def]
  go_ret
  have hh : (u / 256).toNat < lt8.size := by rw [lt8_size]; omega
  have hT := hT hh
  have hb := bits_of (u := u) (s := 8) (by omega) hT.1 hT.2.1 (by omega)
  exact ⟨⟨8 + (lt8[(u / 256).toNat]'hh).toNat, ret1 (num (wrap_s 8 _ (by omega) hT.2.2)), Nat.add_le_add (by omega : 8 ≤ 56) hT.2.2, hb.1, hb.2⟩, rfl⟩
set_option maxRecDepth 100000 in
set_option maxHeartbeats 4000000 in
theorem len64_2 (u : Int) (w : World) (h0 : 0 ≤ u) (h1 : u ≤ 18446744073709551615) (h32 : u < 4294967296) (h16 : ¬ u < 65536) (h8 : u / 65536 < 256) :
    Calls Try.prog 111 #[.int .u64 u] w fun e w' => (∃ k : Nat, e = .returned (.int .i64 k) ∧ k ≤ 64 ∧ u < 2 ^ k ∧ (k = 0 ∨ 2 ^ (k - 1) ≤ u)) ∧ w = w' := by
  have _k := And.intro h0 (And.intro h1 (And.intro h32 (And.intro h16 h8)))
  clear _k
  have hT := lt8_int (u / 65536) (by omega) (by omega)
  go_enter Try.func111, Try.ntmps111
  go_wp2
  simp only [← lt8_def]
  go_ret
  have hh : (u / 65536).toNat < lt8.size := by rw [lt8_size]; omega
  have hT := hT hh
  have hb := bits_of (u := u) (s := 16) (by omega) hT.1 hT.2.1 (by omega)
  exact ⟨⟨16 + (lt8[(u / 65536).toNat]'hh).toNat, ret1 (num (wrap_s 16 _ (by omega) hT.2.2)), Nat.add_le_add (by omega : 16 ≤ 56) hT.2.2, hb.1, hb.2⟩, rfl⟩
set_option maxRecDepth 100000 in
set_option maxHeartbeats 4000000 in
theorem len64_3 (u : Int) (w : World) (h0 : 0 ≤ u) (h1 : u ≤ 18446744073709551615) (h32 : u < 4294967296) (h16 : ¬ u < 65536) (h8 : ¬ u / 65536 < 256) :
    Calls Try.prog 111 #[.int .u64 u] w fun e w' => (∃ k : Nat, e = .returned (.int .i64 k) ∧ k ≤ 64 ∧ u < 2 ^ k ∧ (k = 0 ∨ 2 ^ (k - 1) ≤ u)) ∧ w = w' := by
  have _k := And.intro h0 (And.intro h1 (And.intro h32 (And.intro h16 h8)))
  clear _k
  have hT := lt8_int (u / 65536 / 256) (by omega) (by omega)
  go_enter Try.func111, Try.ntmps111
  go_wp2
  simp only [← lt8_def]
  go_ret
  have hh : (u / 65536 / 256).toNat < lt8.size := by rw [lt8_size]; omega
  have hT := hT hh
  have hb := bits_of (u := u) (s := 24) (by omega) hT.1 hT.2.1 (by omega)
  exact ⟨⟨24 + (lt8[(u / 65536 / 256).toNat]'hh).toNat, ret1 (num (wrap_s 24 _ (by omega) hT.2.2)), Nat.add_le_add (by omega : 24 ≤ 56) hT.2.2, hb.1, hb.2⟩, rfl⟩
set_option maxRecDepth 100000 in
set_option maxHeartbeats 4000000 in
theorem len64_4 (u : Int) (w : World) (h0 : 0 ≤ u) (h1 : u ≤ 18446744073709551615) (h32 : ¬ u < 4294967296) (h16 : u / 4294967296 < 65536) (h8 : u / 4294967296 < 256) :
    Calls Try.prog 111 #[.int .u64 u] w fun e w' => (∃ k : Nat, e = .returned (.int .i64 k) ∧ k ≤ 64 ∧ u < 2 ^ k ∧ (k = 0 ∨ 2 ^ (k - 1) ≤ u)) ∧ w = w' := by
  have _k := And.intro h0 (And.intro h1 (And.intro h32 (And.intro h16 h8)))
  clear _k
  have hT := lt8_int (u / 4294967296) (by omega) (by omega)
  go_enter Try.func111, Try.ntmps111
  go_wp2
  simp only [← lt8_def]
  go_ret
  have hh : (u / 4294967296).toNat < lt8.size := by rw [lt8_size]; omega
  have hT := hT hh
  have hb := bits_of (u := u) (s := 32) (by omega) hT.1 hT.2.1 (by omega)
  exact ⟨⟨32 + (lt8[(u / 4294967296).toNat]'hh).toNat, ret1 (num (wrap_s 32 _ (by omega) hT.2.2)), Nat.add_le_add (by omega : 32 ≤ 56) hT.2.2, hb.1, hb.2⟩, rfl⟩
set_option maxRecDepth 100000 in
set_option maxHeartbeats 4000000 in
theorem len64_5 (u : Int) (w : World) (h0 : 0 ≤ u) (h1 : u ≤ 18446744073709551615) (h32 : ¬ u < 4294967296) (h16 : u / 4294967296 < 65536) (h8 : ¬ u / 4294967296 < 256) :
    Calls Try.prog 111 #[.int .u64 u] w fun e w' => (∃ k : Nat, e = .returned (.int .i64 k) ∧ k ≤ 64 ∧ u < 2 ^ k ∧ (k = 0 ∨ 2 ^ (k - 1) ≤ u)) ∧ w = w' := by
  have _k := And.intro h0 (And.intro h1 (And.intro h32 (And.intro h16 h8)))
  clear _k
  have hT := lt8_int (u / 4294967296 / 256) (by omega) (by omega)
  go_enter Try.func111, Try.ntmps111
  go_wp2
  simp only [← lt8_def]
  go_ret
  have hh : (u / 4294967296 / 256).toNat < lt8.size := by rw [lt8_size]; omega
  have hT := hT hh
  have hb := bits_of (u := u) (s := 40) (by omega) hT.1 hT.2.1 (by omega)
  exact ⟨⟨40 + (lt8[(u / 4294967296 / 256).toNat]'hh).toNat, ret1 (num (wrap_s 40 _ (by omega) hT.2.2)), Nat.add_le_add (by omega : 40 ≤ 56) hT.2.2, hb.1, hb.2⟩, rfl⟩
set_option maxRecDepth 100000 in
set_option maxHeartbeats 4000000 in
theorem len64_6 (u : Int) (w : World) (h0 : 0 ≤ u) (h1 : u ≤ 18446744073709551615) (h32 : ¬ u < 4294967296) (h16 : ¬ u / 4294967296 < 65536) (h8 : u / 4294967296 / 65536 < 256) :
    Calls Try.prog 111 #[.int .u64 u] w fun e w' => (∃ k : Nat, e = .returned (.int .i64 k) ∧ k ≤ 64 ∧ u < 2 ^ k ∧ (k = 0 ∨ 2 ^ (k - 1) ≤ u)) ∧ w = w' := by
  have _k := And.intro h0 (And.intro h1 (And.intro h32 (And.intro h16 h8)))
  clear _k
  have hT := lt8_int (u / 4294967296 / 65536) (by omega) (by omega)
  go_enter Try.func111, Try.ntmps111
  go_wp2
  simp only [← lt8_def]
  go_ret
  have hh : (u / 4294967296 / 65536).toNat < lt8.size := by rw [lt8_size]; omega
  have hT := hT hh
  have hb := bits_of (u := u) (s := 48) (by omega) hT.1 hT.2.1 (by omega)
  exact ⟨⟨48 + (lt8[(u / 4294967296 / 65536).toNat]'hh).toNat, ret1 (num (wrap_s 48 _ (by omega) hT.2.2)), Nat.add_le_add (by omega : 48 ≤ 56) hT.2.2, hb.1, hb.2⟩, rfl⟩
set_option maxRecDepth 100000 in
set_option maxHeartbeats 4000000 in
theorem len64_7 (u : Int) (w : World) (h0 : 0 ≤ u) (h1 : u ≤ 18446744073709551615) (h32 : ¬ u < 4294967296) (h16 : ¬ u / 4294967296 < 65536) (h8 : ¬ u / 4294967296 / 65536 < 256) :
    Calls Try.prog 111 #[.int .u64 u] w fun e w' => (∃ k : Nat, e = .returned (.int .i64 k) ∧ k ≤ 64 ∧ u < 2 ^ k ∧ (k = 0 ∨ 2 ^ (k - 1) ≤ u)) ∧ w = w' := by
  have _k := And.intro h0 (And.intro h1 (And.intro h32 (And.intro h16 h8)))
  clear _k
  have hT := lt8_int (u / 4294967296 / 65536 / 256) (by omega) (by omega)
  go_enter Try.func111, Try.ntmps111
  go_wp2
  simp only [← lt8_def]
  go_ret
  have hh : (u / 4294967296 / 65536 / 256).toNat < lt8.size := by rw [lt8_size]; omega
  have hT := hT hh
  have hb := bits_of (u := u) (s := 56) (by omega) hT.1 hT.2.1 (by omega)
  exact ⟨⟨56 + (lt8[(u / 4294967296 / 65536 / 256).toNat]'hh).toNat, ret1 (num (wrap_s 56 _ (by omega) hT.2.2)), Nat.add_le_add (by omega : 56 ≤ 56) hT.2.2, hb.1, hb.2⟩, rfl⟩
theorem len64_calls (u : Int) (w : World) (h0 : 0 ≤ u) (h1 : u ≤ 18446744073709551615) :
    Calls Try.prog 111 #[.int .u64 u] w fun e w' => (∃ k : Nat, e = .returned (.int .i64 k) ∧ k ≤ 64 ∧ u < 2 ^ k ∧ (k = 0 ∨ 2 ^ (k - 1) ≤ u)) ∧ w = w' := by
  by_cases h32 : u < 4294967296
  · by_cases h16 : u < 65536
    · by_cases h8 : u < 256
      · exact len64_0 u w h0 h1 h32 h16 h8
      · exact len64_1 u w h0 h1 h32 h16 h8
    · by_cases h8 : u / 65536 < 256
      · exact len64_2 u w h0 h1 h32 h16 h8
      · exact len64_3 u w h0 h1 h32 h16 h8
  · by_cases h16 : u / 4294967296 < 65536
    · by_cases h8 : u / 4294967296 < 256
      · exact len64_4 u w h0 h1 h32 h16 h8
      · exact len64_5 u w h0 h1 h32 h16 h8
    · by_cases h8 : u / 4294967296 / 65536 < 256
      · exact len64_6 u w h0 h1 h32 h16 h8
      · exact len64_7 u w h0 h1 h32 h16 h8
end Ce
end Go.Proofs.Yteiniahikhiadaa
