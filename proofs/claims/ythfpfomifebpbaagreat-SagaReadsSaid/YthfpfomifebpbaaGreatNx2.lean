/-
  items: a range over All whose rounds may write what is older, but not the list; Put.
  cells of numbers: a number's cell, as the program and as the document make it.
  slices.Concat at bytes: what it hands back owns the parts, one behind the other.
  codes of lists of items, in plain words: what is taken of bytes, and what is put.
  cells: slices.Clone at bytes; the maker: New, put, Num, Text, Done.
  cells of numbers: a number's cell, as the document makes it.
  cells of numbers: the first number of bytes.
-/
import Derived.Test.YthfpfomifebpbaaGreatNz1
import Derived.Test.YthfpfomifebpbaaGreatNz3
import Derived.Test.YthfpfomifebpbaaGreatNx1
import Derived.Test.YthfpfomifebpbaaGreatNz4
import Derived.Laws.OwnMore
import Derived.Lib.Zigzag
import Derived.Test.YthfpfomifebpbaaGreatLayed
import Derived.Test.YthfpfomifebpbaaGreatNz5
import Derived.Laws.IdiomStrings
import Derived.Lib.SliceRun
import Derived.Laws.Bits64b
import Derived.Shelf.Bytes.SlSmallAll
import Derived.Deep.RegionWith

set_option linter.unusedVariables false
set_option linter.unusedSimpArgs false
namespace Go.Proofs.YthfpfomifebpbaaGreat
open Go.RowKit
namespace It
attribute [local go_sem] Oper.semAt_some

/-- the cells of Fr's blocks stay -/
structure KeepC (Fr : Nat → Prop) (A B : World) : Prop where
  size : A.heap.size ≤ B.heap.size
  same : ∀ b o, Fr b → A.heap[b]? = some o → o.isCells = true → B.heap[b]? = some o
section
variable {Fr : Nat → Prop} {A B C : World}
theorem KeepC.refl (Fr : Nat → Prop) (A : World) : KeepC Fr A A := ⟨Nat.le_refl _, fun _ _ _ h _ => h⟩
theorem KeepC.trans (h : KeepC Fr A B) (k : KeepC Fr B C) : KeepC Fr A C := ⟨Nat.le_trans h.size k.size, fun b o h1 h2 h3 => k.same b o h1 (h.same b o h1 h2 h3) h3⟩
theorem KeepC.putObj {W : World} {l : Nat} {o o' : Obj} (h : W.heap[l]? = some o) (hc : o.isCells = false) : KeepC Fr W (W.putObj l o') := by
  refine ⟨by simp, fun b u _ hb hu => ?_⟩
  by_cases e : b = l
  · subst e
    rw [h] at hb
    cases hb
    rw [hc] at hu
    cases hu
  · exact (World.putObj_heap_other e).trans hb
theorem KeepC.of_below {n : Nat} (h : Below n A B) (hF : ∀ i, Fr i → i < n) : KeepC Fr A B := ⟨h.size, fun b _ h1 h2 _ => (h.block b (hF b h1)).trans h2⟩
theorem KeepC.of_kept (h : Kept Fr A B) : KeepC Fr A B := ⟨h.size, fun b _ h1 h2 _ => (h.block b h1).trans h2⟩
theorem KeepC.of_grown {row : Option Nat} (h : A.grownBy B row) (hr : ∀ g, row = some g → ¬ Fr g) : KeepC Fr A B :=
  ⟨h.size, fun b _ h1 h2 _ => (h.block b (Array.getElem?_eq_some_iff.1 h2).1 (fun e => hr b e.symm h1)).trans h2⟩
theorem KeepC.cell {b j : Nat} {v : Value} (h : KeepC Fr A B) (hF : Fr b) (hc : A.cell? ⟨b, j, none⟩ = some v) : B.cell? ⟨b, j, none⟩ = some v := by
  have h2 := hc
  unfold World.cell? at h2
  split at h2
  · rename_i c t _ hb
    have := h.same b _ hF hb rfl
    exact (World.cell?_of_block (w := A) (w' := B) (a := ⟨b, j, none⟩) (this.trans hb.symm)).trans hc
  · cases h2
theorem KeepC.sl {lo hi size n : Nat} {v : Value} {xs : List Value} (h : KeepC Fr A B) (hs : Sl A lo hi size v n xs) (hx : ∀ i, lo ≤ i → i < hi → Fr i) : Sl B lo hi size v n xs := by
  refine ⟨hs.len, ?_⟩
  obtain ⟨A', c, e, h1, h2, h3⟩ := hs.at_
  refine ⟨A', c, e, h1, h2, fun hn => ?_⟩
  obtain ⟨b, o, ea, hl, hb, hc⟩ := h3 hn
  refine ⟨b, o, ea, hl, hb, fun j hj => ?_⟩
  have hj2 : j < xs.length := by rw [hs.len]; exact hj
  have e2 : xs[j]? = some xs[j] := List.getElem?_eq_getElem hj2
  rw [e2]
  exact h.cell (hx b hl hb) ((hc j hj).trans e2)
end

set_option maxRecDepth 100000 in
set_option maxHeartbeats 2000000 in
theorem all1_inK (F : Fence) (n : Nat) (hf : F.fn 112) (hro : F.round = none) (hn : 1 ≤ n) (l Bs lo hi c : Nat) (A : Option Addr) (L : List Item) (hc1 : L.length ≤ c) (hc2 : c ≤ maxLen) (J Jx : List (Of L) → World → Prop)
    (W : World) (Fr : Nat → Prop) (hFl : ∀ i, Fr i → i < W.heap.size) (hF : ∀ i, lo ≤ i → i < hi → Fr i) (hJ : AbidesFrom W.heap.size J)
    (hY : ∀ pre x W, J pre W → pre.length < L.length → YieldAt F (n - 1) Tryz.prog l (enc2 x) W fun e W' =>
      (e = .returned (.bool true) ∧ J (pre ++ [x]) W' ∧ KeepC Fr W W') ∨ (e = .returned (.bool false) ∧ Jx (pre ++ [x]) W'))
    (hBs : W.cell? ⟨Bs, 0, none⟩ = some (.slice A L.length c)) (hI : ItemsAt W lo hi (.slice A L.length c) L) (h0 : J [] W) :
    CallsIn F n Tryz.prog 112 #[.func (.yield l) #[] #[], .pointer (some ⟨Bs, 0, none⟩)] W fun e W' => (∃ v, e = .returned v) ∧
      ((∃ ys, ys = L.attach ∧ J ys W') ∨ (∃ pre, pre <+: L.attach ∧ Jx pre W')) := by
  unfold maxLen at hc2
  refine callsIn_of_wp Tryz.func112 rfl hf ?_ hro
  simp only [Tryz.ntmps112, List.size_toArray, List.length_cons, List.length_nil, Nat.reduceAdd, Nat.reduceSub, Array.replicate_succ, Array.replicate_zero, List.push_toArray, List.append_toArray, List.nil_append, List.cons_append]
  gi_wp2
  gi_loopw [4, 7] (fun _ i wr => ∃ k : Nat, k ≤ L.length ∧ i = .int .i64 k ∧ J (firsts L k) wr ∧ KeepC Fr W wr) (fun _ i _ => L.length - (intOf i).toNat)
  case atStart => exact ⟨0, by omega, rfl, h0, KeepC.refl _ _⟩
  case round =>
    obtain ⟨k, hk, rfl, hJs, hb⟩ := hrel
    by_cases hlt : k < L.length
    · obtain ⟨b, o, rfl, _, hbn, hs, hi⟩ := ItemsAt.cellAt (hb.sl hI hF) hlt
      have hsz := hb.size
      have hJ' : J (firsts L k) (wr.alloc (.cells #[.string L[k].1, .int .i64 L[k].2] 50)) := hJ _ _ _ none hJs (World.grownBy_alloc _ _ none) (fun r e => by cases e)
      have ha : KeepC Fr wr (wr.alloc (.cells #[.string L[k].1, .int .i64 L[k].2] 50)) := KeepC.of_below (n := wr.heap.size) ((Below.refl _ _).alloc (Nat.le_refl _) _) (fun i hi => by have := hFl i hi; omega)
      have HKA := Lib.hid (hb.trans ha)
      clear ha hb
      obtain ⟨fn, tmps, assign, body, hy, hR⟩ := hY _ ⟨L[k], List.getElem_mem hlt⟩ _ hJ' (by rw [firsts_length _ _ hk]; exact hlt)
      dsimp only [enc2] at hy
      gi_wp2
      refine hR.mono ?_
      rintro e W3 (⟨rfl, hJ3, hk3⟩ | ⟨rfl, hJx3⟩)
      · gi_wp2
        go_roundw
        case rel => exact ⟨k + 1, by omega, by go_num, by rw [firsts_succ L k hlt]; exact hJ3, HKA.out.trans hk3⟩
        case measure => simp [intOf]; omega
      · gi_wp2
        refine bodyPost_ret (results_none rfl _ _ _) rfl ?_
        exact ⟨⟨_, rfl⟩, .inr ⟨_, by rw [← firsts_succ L k hlt]; exact List.take_prefix _ _, hJx3⟩⟩
    · obtain rfl : k = L.length := by omega
      gi_wp2
      go_end0
      exact ⟨⟨_, rfl⟩, .inl ⟨_, rfl, by rw [← firsts_all]; exact hJs⟩⟩

/-- how the body of a round may be left -/
def rpostK {α : Type} (B : Nat) (Fr : Nat → Prop) (C : List α → World → Prop) (Cx : Code → List α → World → Prop) (xs : List α) (W : World) : Exit → Act → World → Prop
  | .normal, _, W' => KeepsFrom B W W' ∧ KeepC Fr W W' ∧ C xs W'
  | .ret, _, W' => KeepsFrom B W W' ∧ Cx .ret xs W'
  | .exit id, _, W' => KeepsFrom B W W' ∧ Cx (.exit id) xs W'
  | .goto t, _, W' => KeepsFrom B W W' ∧ Cx (.goto t) xs W'
  | .panic _, _, _ => False
  | .outgrown, _, _ => False

/-- 'for good, n := range items.All(l) { .. }': the cells of the list stay -/
theorem range_allK {F : Fence} {n : Nat} {g : Operand} {ps : Array Tmp} {assign body : Code} {Q : Exit → Act → World → Prop} {a : Act} {w : World}
    (hro : F.round = none) (hf : F.fn 112) (hn : 2 ≤ n) {Bs lo hi : Nat} {v : Value} {L : List Item} (hg : a.eval g = .func (.func 112) #[] #[.pointer (some ⟨Bs, 0, none⟩)]) (hps : ps.size = 2)
    (Fr : Nat → Prop) (hFl : ∀ i, Fr i → i < w.heap.size) (hF : ∀ i, lo ≤ i → i < hi → Fr i) (hBs : Bs < w.heap.size) (hc : w.cell? ⟨Bs, 0, none⟩ = some v) (hI : ItemsAt w lo hi v L) (hhi : hi ≤ w.heap.size)
    (C : List (Of L) → World → Prop) (Cx : Code → List (Of L) → World → Prop) (hC : OwnFrom w.heap.size C) (hCx : ∀ c, OwnFrom w.heap.size (Cx c)) (h0 : C [] w) (a₁ : Of L → Act)
    (hassign : ∀ (l : Nat) (x : Of L) (W : World) (K : Act → World → Prop), K (a₁ x) W →
      assign.wpIn (F.inRound l) (n - 1 - 1) Tryz.prog (Exit.then K (fun _ _ _ => False)) { tmps := (ps.zip (enc2 x)).foldl (fun t (p, v) => t.setIfInBounds p v) a.tmps, defers := [] } W)
    (hbody : ∀ (l : Nat) (pre : List (Of L)) (x : Of L) (W : World), C pre W → pre.length < L.length → body.wpIn (F.inRound l) (n - 1 - 1) Tryz.prog (rpostK w.heap.size Fr C Cx (pre ++ [x]) W) (a₁ x) W)
    (hdone : ∀ (D : Nat) (W : World), w.heap.size ≤ D → C L.attach W → W.heap[D]? = some (.deferred (some [])) → Q .normal { a with defers := { target := .collected D, args := #[] } :: a.defers } W)
    (hstop : ∀ (D : Nat) (c : Code) (pre : List (Of L)) (W : World), w.heap.size ≤ D → pre <+: L.attach → Cx c pre W → W.heap[D]? = some (.deferred (some [])) → c.wpIn F n Tryz.prog Q { a with defers := { target := .collected D, args := #[] } :: a.defers } W) :
    (Code.rangeFunc g ps assign body).wpIn F n Tryz.prog Q a w := by
  have hst : SeqStopsK F (n - 1) Tryz.prog 112 #[.pointer (some ⟨Bs, 0, none⟩)] (enc2 (l := L)) (KeepC Fr) (fun ys => ys = L.attach) (fun pre => pre <+: L.attach) L.length w := fun l J Jx W hW hJ _ hY h0 => by
    obtain ⟨A, c, rfl, h1, h2⟩ := hI.form
    exact all1_inK F (n - 1) hf hro (by omega) l Bs lo hi c A L h1 h2 J Jx W Fr (fun i hi => Nat.lt_of_lt_of_le (hFl i hi) hW.size) hF hJ hY ((hW.cell (p := ⟨Bs, 0, none⟩) hBs).trans hc) (hI.keep fun b _ _ hb => World.cell?_of_block (hW.block b (by omega))) h0
  exact wpIn_rangeFunc_ownG hro (by omega) hg hf (enters_of Tryz.func112 (by kernel_rfl) rfl)
    hst (fun h k => h.trans k) (fun W l o o' _ h hcl _ => KeepC.putObj h hcl) (Below.refl _ _) (fun _ => hps.symm)
    C Cx hC hCx h0 a₁ hassign
    (fun l pre x W hc hl => wpIn_mono (hbody l pre x W hc hl) (fun e a' W' h => by
      cases e with
      | normal => exact h
      | ret => exact h
      | exit id => exact h
      | goto t => exact h
      | panic ch => exact h.elim
      | outgrown => exact h.elim))
    (fun D xs W hD hS hc hK => by subst hS; exact hdone D W hD hc hK)
    (fun D c pre W hD hp hc hK => hstop D c pre W hD hp hc hK)
end It
end Go.Proofs.YthfpfomifebpbaaGreat

namespace Go.Proofs.YthfpfomifebpbaaGreat
open Go.RowKit
namespace Ce

/-- bytes in memory -/
def bytesV (l : List UInt8) : List Value := l.map fun c => Value.int .u8 (c.toNat : Int)
theorem bytesV_length (l : List UInt8) : (bytesV l).length = l.length := by simp [bytesV]
theorem bytesV_append (a b : List UInt8) : bytesV (a ++ b) = bytesV a ++ bytesV b := by simp [bytesV]
theorem bytesV_one (l : List UInt8) : ∀ y ∈ bytesV l, y.oneCell' = true := by
  intro y hy
  obtain ⟨x, _, rfl⟩ := List.mem_map.1 hy
  rfl
def BytesAt (w : World) (lo B : Nat) (v : Value) (l : List UInt8) : Prop := Sl w lo B 1 v l.length (bytesV l)
section
variable {w w' : World} {lo lo' B B' : Nat} {v : Value} {l : List UInt8}
theorem BytesAt.below (h : BytesAt w lo B v l) (hb : Below B w w') : BytesAt w' lo B v l := Sl.below h hb
theorem BytesAt.mono (h : BytesAt w lo B v l) (hb : Below B w w') (hB : B ≤ B') : BytesAt w' lo B' v l := Sl.mono h hb hB
theorem BytesAt.wide (h : BytesAt w lo B v l) (hl : lo' ≤ lo) (hB : B ≤ B') : BytesAt w lo' B' v l := Sl.wide h hl hB
theorem BytesAt.nil (w : World) (lo B : Nat) : BytesAt w lo B (.slice none 0 0) [] := Sl.nil w lo B 1
theorem BytesAt.form (h : BytesAt w lo B v l) : ∃ A c, v = .slice A l.length c ∧ l.length ≤ c ∧ c ≤ maxLen := by
  obtain ⟨A, c, e, h1, h2, _⟩ := h.at_
  exact ⟨A, c, e, h1, h2⟩
theorem BytesAt.cellAt {A : Option Addr} {n c j : Nat} (h : BytesAt w lo B (.slice A n c) l) (hj : j < l.length) :
    ∃ b o, A = some ⟨b, o, none⟩ ∧ lo ≤ b ∧ b < B ∧ w.cell? ⟨b, o + j, none⟩ = some (.int .u8 (l[j].toNat : Int)) := by
  obtain ⟨A', c', e, _, _, h3⟩ := h.at_
  cases e
  obtain ⟨b, o, e1, e2, e3, e4⟩ := h3 (by omega)
  refine ⟨b, o, e1, e2, e3, (e4 j (by omega)).trans ?_⟩
  simp [bytesV, hj]
theorem BytesAt.of_own {e : TypeId} {n : Nat} (h : w.ownsRow lo e 1 v n (bytesV l)) : BytesAt w lo w.heap.size v l := by
  have hn : n = l.length := by have := h.1; rw [bytesV_length] at this; omega
  subst hn
  exact Sl.of_own h
end
theorem byte_info : (Tryz.prog.info? 5).map (fun i => (i.zero, i.size, i.bytes)) = some (some (.int .u8 0), 1, 1) := by kernel_rfl

theorem byte_of {n : Int} {k : Nat} (h : n = k) (hk : k < 256) : Value.int .u8 n = .int .u8 ((UInt8.ofNat k).toNat : Int) := by
  rw [h, toNat_ofNat hk]
/-- how many bytes, from how many bits -/
theorem size_of {u : Int} {k : Nat} (h0 : 0 ≤ u) (h1 : u ≤ 18446744073709551615) (hk : k ≤ 64) (h2 : u < 2 ^ k) (h3 : k = 0 ∨ 2 ^ (k - 1) ≤ u) : (k + 7) / 8 = (dig u.toNat).length := by
  obtain ⟨n, rfl⟩ := Int.eq_ofNat_of_zero_le h0
  simp only [Int.toNat_natCast]
  have h2' : n < 2 ^ k := by exact_mod_cast h2
  have h3' : k = 0 ∨ 2 ^ (k - 1) ≤ n := by
    rcases h3 with h | h
    · exact .inl h
    · exact .inr (by exact_mod_cast h)
  refine Nat.le_antisymm ?_ ?_
  · have hg := dig_ge (u := n) (by omega)
    rcases h3' with rfl | h
    · simp
    · have hlt : 2 ^ (k - 1) < 2 ^ (8 * (dig n).length) := by
        rw [Nat.pow_mul]
        exact Nat.lt_of_le_of_lt h hg
      have := (Nat.pow_lt_pow_iff_right (a := 2) (by omega)).1 hlt
      omega
  · refine dig_len (by omega) ?_
    rw [show (256 : Nat) = 2 ^ 8 by rfl, ← Nat.pow_mul]
    exact Nat.lt_of_lt_of_le h2' (Nat.pow_le_pow_right (by omega) (by omega))

theorem flip_neg {n : Int} (h0 : -9223372036854775808 ≤ n) (h : n < 0) : bits .xor .u64 IntKind.u64.max (IntKind.u64.wrap n) = -1 - n := by
  have e1 : IntKind.u64.wrap n = (((n + 18446744073709551616).toNat : Nat) : Int) := by
    rw [IntKind.wrap_u64]
    omega
  have e2 : IntKind.u64.max = ((2 ^ 64 - 1 : Nat) : Int) := by decide
  rw [e1, e2, bits_xor_u64_nat _ _ (by decide) (by omega), Lib.xor_ones64 _ (by omega)]
  omega

theorem byte_shift {u : Int} {m : Nat} (h : 0 ≤ u) : u / 2 ^ (8 * m) % 256 = ((u.toNat / 256 ^ m % 256 : Nat) : Int) := by
  obtain ⟨x, rfl⟩ := Int.eq_ofNat_of_zero_le h
  simp only [Int.toNat_natCast]
  have h1 : ((2 : Nat) ^ (8 * m) : Nat) = 256 ^ m := by
    rw [Nat.pow_mul]
  have h2 : (2 : Int) ^ (8 * m) = ((2 ^ (8 * m) : Nat) : Int) := (Int.natCast_pow 2 (8 * m)).symm
  rw [h2, h1]
  generalize 256 ^ m = q
  omega
theorem BytesAt.clip {w : World} {lo B n c : Nat} {A : Option Addr} {l : List UInt8} (h : BytesAt w lo B (.slice A n c) l) : BytesAt w lo B (.slice A n n) l := by
  have h0 := h.len
  obtain ⟨A', c', e, h1, h2, h3⟩ := h.at_
  cases e
  exact ⟨h0, _, _, rfl, Nat.le_refl _, Nat.le_trans h1 h2, h3⟩
set_option maxHeartbeats 1000000 in
theorem clip_calls (A : Option Addr) (n c : Nat) (w : World) (h : n ≤ c) :
    Calls Tryz.prog 122 #[.slice A n c] w fun e w' => e = .returned (.slice A n n) ∧ w = w' := by
  have k1 : (0 : Int) ≤ (n : Int) := by omega
  have k2 : (n : Int) ≤ (c : Int) := by omega
  go_enter Tryz.func122, Tryz.ntmps122
  go_wp2
  go_ret
  exact ⟨rfl, rfl⟩

set_option maxRecDepth 100000 in
set_option maxHeartbeats 4000000 in
theorem num_calls (n : Int) (w : World) (h0 : -9223372036854775808 ≤ n) (h1 : n ≤ 9223372036854775807) :
    Calls Tryz.prog 90 #[.int .i64 n] w fun e w' => (∃ v, e = .returned v ∧ BytesAt w' w.heap.size w'.heap.size v (numC n)) ∧ Below w.heap.size w w' := by
  obtain ⟨i0, hi0, hz0⟩ := Option.map_eq_some_iff.1 byte_info
  simp only [Prod.mk.injEq] at hz0
  obtain ⟨hz0, hz1, hz2⟩ := hz0
  by_cases hs : 0 ≤ n ∧ n < 128
  · have HS := Lib.hid (numC_small hs)
    obtain ⟨hs1, hs2⟩ := hs
    have hd1 : decide (n ≥ 0) = true := by simpa using hs1
    have hd2 : decide (n < 128) = true := by simpa using hs2
    go_enter Tryz.func90, Tryz.ntmps90
    go_wp2
    go_ret
    refine ⟨⟨_, rfl, ?_⟩, (Below.refl _ w).alloc (Nat.le_refl _) _⟩
    rw [HS.out]
    have := Sl.new w #[.int .u8 n] 5 (n := 1) (size := 1) rfl (by unfold maxLen; omega)
    rw [World.size_alloc]
    unfold BytesAt
    simp only [bytesV, List.map_cons, List.map_nil, List.length_singleton]
    rw [← byte_of (n := n) (by omega) (by omega)]
    exact this
  · by_cases hn : n < 0
    · have hd1 : decide (n ≥ 0) = false := by simp; omega
      have hd3 : decide (n < 0) = true := by simpa using hn
      have hx := flip_neg h0 hn
      go_enter Tryz.func90, Tryz.ntmps90
      go_wp2_with fail
      refine (len64_calls (-1 - n) _ (by omega) (by omega)).mono ?_
      rintro e W ⟨⟨k, rfl, hk, hk2, hk3⟩, rfl⟩
      have hsz := size_of (by omega) (by omega) hk hk2 hk3
      have HSZ := Lib.hid hsz
      have h8 := dig_len8 (-1 - n).toNat
      clear hsz hk2 hk3
      go_wp2
      have hz : ((k : Int) + 8 - 1) / 8 = ((dig (-1 - n).toNat).length : Int) := by have := HSZ.out; omega
      rw [hz]
      clear hz HSZ
      have hown0 : (w.alloc (.cells #[.int .u8 (144 + ((dig (-1 - n).toNat).length : Int))] 5)).ownsRow w.heap.size 5 1 (.slice (some ⟨w.heap.size, 0, none⟩) 1 1) 1 (bytesV [UInt8.ofNat (144 + (dig (-1 - n).toNat).length)]) := by
        have := World.ownsRow_lit (size := 1) (base := w.heap.size) (e := 5) w #[.int .u8 (144 + ((dig (-1 - n).toNat).length : Int))] 1 (Nat.le_refl _) (by unfold maxLen; omega) rfl
        simp only [bytesV, List.map_cons, List.map_nil]
        rw [← byte_of (n := 144 + ((dig (-1 - n).toNat).length : Int)) (by omega) (by omega)]
        exact this
      have HG := Lib.hid (dig_get _ (-1 - n).toNat h8 rfl (by omega))
      have HNC := Lib.hid (show numC n = UInt8.ofNat (144 + (dig (-1 - n).toNat).length) :: dig (-1 - n).toNat from numC_neg hn)
      generalize UInt8.ofNat (144 + (dig (-1 - n).toNat).length) = hb at *
      generalize dig (-1 - n).toNat = D at *
      go_loopw [6, 7] (fun o i wr => ∃ j : Nat, j ≤ D.length ∧ i = .int .i64 ((D.length : Int) - 1 - j) ∧ wr.ownsRow w.heap.size 5 1 o (1 + j) (bytesV (hb :: D.take j)) ∧ Below w.heap.size w wr) (fun _ i _ => (intOf i + 1).toNat)
      case atStart => exact ⟨0, by omega, by go_num, hown0, (Below.refl _ w).alloc (Nat.le_refl _) _⟩
      case round =>
        obtain ⟨j, hj, rfl, hown, hB⟩ := hrel
        clear hown0
        by_cases hlt : j < D.length
        · obtain ⟨m, hm⟩ : ∃ m : Nat, (D.length : Int) - 1 - j = (m : Int) := ⟨D.length - 1 - j, by omega⟩
          rw [hm]
          have hm2 : m < 8 := by omega
          have HM := Lib.hid hm
          clear hm
          have hbyte : (-1 - n) / 2 ^ (8 * m) % 256 = ((D[j]'hlt).toNat : Int) := by
            have h1 := HG.out j hlt
            rw [List.getElem?_eq_getElem hlt, show D.length - 1 - j = m by have := HM.out; omega] at h1
            simp only [Option.some.injEq] at h1
            rw [h1, toNat_ofNat (Nat.mod_lt _ (by omega))]
            exact byte_shift (by omega)
          have hts : D.take (j + 1) = D.take j ++ [D[j]] := List.take_succ_eq_append_getElem hlt
          have HB := Lib.hid hbyte
          have HTS := Lib.hid (show bytesV (hb :: D.take (j + 1)) = bytesV (hb :: D.take j) ++ [.int .u8 ((D[j]'hlt).toNat : Int)] by simp only [bytesV, List.map_cons, hts, List.map_append, List.map_nil, List.cons_append])
          clear hbyte hts
          go_wp2_with (at_builtin
                       refine wpList_append_sl _ rfl (.tmp 39) (.tmp 45) _ rfl w.heap.size 5 i0 _ 1 1 Tryz.underlying39 hi0 hz0 hz1 hz2 rfl (by omega) u6 (1 + j) _ rfl (hown.alloc _) wr.heap.size (wr.heap.size + 1) _ 1 [.int .u8 ((-1 - n) / 2 ^ (8 * m) % 256)] rfl (Sl.new wr #[.int .u8 ((-1 - n) / 2 ^ (8 * m) % 256)] 5 (n := 1) rfl (by unfold maxLen; omega)) (by simp [Value.oneCell']) (by unfold maxLen; omega) (by omega) (by have := hB.size; simp; omega) ?_
                       intro v1 w5 hv1 hg1 hat1)
          have hB4 : Below w.heap.size w w5 := (hB.alloc hB.size _).grown hg1 (by have := hB.size; simp; omega) (fun g hg => (hown.lt g hg).1)
          clear hg1 hat1 hown
          go_roundw
          case rel =>
            refine ⟨j + 1, by omega, num (by have := HM.out; omega), ?_, hB4⟩
            rw [HTS.out, ← HB.out, ← Nat.add_assoc]
            exact hv1
          case measure => have := HM.out; simp only [intOf]; omega
        · obtain rfl : j = D.length := by omega
          rw [show (D.length : Int) - 1 - (D.length : Int) = -1 by omega]
          rw [List.take_length, show 1 + D.length = (hb :: D).length by rw [List.length_cons, Nat.add_comm]] at hown
          have hx := (BytesAt.of_own hown)
          obtain ⟨A5, c5, rfl, hc5, -⟩ := hx.form
          clear hown
          go_wp2_with (go_at_call 122; refine (clip_calls A5 _ c5 _ hc5).mono ?_; rintro e w9 ⟨rfl, rfl⟩)
          go_ret
          rw [HNC.out]
          exact ⟨⟨_, rfl, BytesAt.clip hx⟩, hB⟩
    · have hn2 : 128 ≤ n := by omega
      have hd1 : decide (n ≥ 0) = true := by simp; omega
      have hd2 : decide (n < 128) = false := by simp; omega
      have hd3 : decide (n < 0) = false := by simp; omega
      go_enter Tryz.func90, Tryz.ntmps90
      go_wp2_with fail
      refine (len64_calls (n) _ (by omega) (by omega)).mono ?_
      rintro e W ⟨⟨k, rfl, hk, hk2, hk3⟩, rfl⟩
      have hsz := size_of (by omega) (by omega) hk hk2 hk3
      have HSZ := Lib.hid hsz
      have h8 := dig_len8 (n).toNat
      clear hsz hk2 hk3
      go_wp2
      have hz : ((k : Int) + 8 - 1) / 8 = ((dig (n).toNat).length : Int) := by have := HSZ.out; omega
      rw [hz]
      clear hz HSZ
      have hown0 : (w.alloc (.cells #[.int .u8 (128 + ((dig (n).toNat).length : Int))] 5)).ownsRow w.heap.size 5 1 (.slice (some ⟨w.heap.size, 0, none⟩) 1 1) 1 (bytesV [UInt8.ofNat (128 + (dig (n).toNat).length)]) := by
        have := World.ownsRow_lit (size := 1) (base := w.heap.size) (e := 5) w #[.int .u8 (128 + ((dig (n).toNat).length : Int))] 1 (Nat.le_refl _) (by unfold maxLen; omega) rfl
        simp only [bytesV, List.map_cons, List.map_nil]
        rw [← byte_of (n := 128 + ((dig (n).toNat).length : Int)) (by omega) (by omega)]
        exact this
      have HG := Lib.hid (dig_get _ (n).toNat h8 rfl (by omega))
      have HNC := Lib.hid (show numC n = UInt8.ofNat (128 + (dig (n).toNat).length) :: dig (n).toNat from numC_big hn2)
      generalize UInt8.ofNat (128 + (dig (n).toNat).length) = hb at *
      generalize dig (n).toNat = D at *
      go_loopw [6, 7] (fun o i wr => ∃ j : Nat, j ≤ D.length ∧ i = .int .i64 ((D.length : Int) - 1 - j) ∧ wr.ownsRow w.heap.size 5 1 o (1 + j) (bytesV (hb :: D.take j)) ∧ Below w.heap.size w wr) (fun _ i _ => (intOf i + 1).toNat)
      case atStart => exact ⟨0, by omega, by go_num, hown0, (Below.refl _ w).alloc (Nat.le_refl _) _⟩
      case round =>
        obtain ⟨j, hj, rfl, hown, hB⟩ := hrel
        clear hown0
        by_cases hlt : j < D.length
        · obtain ⟨m, hm⟩ : ∃ m : Nat, (D.length : Int) - 1 - j = (m : Int) := ⟨D.length - 1 - j, by omega⟩
          rw [hm]
          have hm2 : m < 8 := by omega
          have HM := Lib.hid hm
          clear hm
          have hbyte : (n) / 2 ^ (8 * m) % 256 = ((D[j]'hlt).toNat : Int) := by
            have h1 := HG.out j hlt
            rw [List.getElem?_eq_getElem hlt, show D.length - 1 - j = m by have := HM.out; omega] at h1
            simp only [Option.some.injEq] at h1
            rw [h1, toNat_ofNat (Nat.mod_lt _ (by omega))]
            exact byte_shift (by omega)
          have hts : D.take (j + 1) = D.take j ++ [D[j]] := List.take_succ_eq_append_getElem hlt
          have HB := Lib.hid hbyte
          have HTS := Lib.hid (show bytesV (hb :: D.take (j + 1)) = bytesV (hb :: D.take j) ++ [.int .u8 ((D[j]'hlt).toNat : Int)] by simp only [bytesV, List.map_cons, hts, List.map_append, List.map_nil, List.cons_append])
          clear hbyte hts
          go_wp2_with (at_builtin
                       refine wpList_append_sl _ rfl (.tmp 39) (.tmp 45) _ rfl w.heap.size 5 i0 _ 1 1 Tryz.underlying39 hi0 hz0 hz1 hz2 rfl (by omega) u6 (1 + j) _ rfl (hown.alloc _) wr.heap.size (wr.heap.size + 1) _ 1 [.int .u8 ((n) / 2 ^ (8 * m) % 256)] rfl (Sl.new wr #[.int .u8 ((n) / 2 ^ (8 * m) % 256)] 5 (n := 1) rfl (by unfold maxLen; omega)) (by simp [Value.oneCell']) (by unfold maxLen; omega) (by omega) (by have := hB.size; simp; omega) ?_
                       intro v1 w5 hv1 hg1 hat1)
          have hB4 : Below w.heap.size w w5 := (hB.alloc hB.size _).grown hg1 (by have := hB.size; simp; omega) (fun g hg => (hown.lt g hg).1)
          clear hg1 hat1 hown
          go_roundw
          case rel =>
            refine ⟨j + 1, by omega, num (by have := HM.out; omega), ?_, hB4⟩
            rw [HTS.out, ← HB.out, ← Nat.add_assoc]
            exact hv1
          case measure => have := HM.out; simp only [intOf]; omega
        · obtain rfl : j = D.length := by omega
          rw [show (D.length : Int) - 1 - (D.length : Int) = -1 by omega]
          rw [List.take_length, show 1 + D.length = (hb :: D).length by rw [List.length_cons, Nat.add_comm]] at hown
          have hx := (BytesAt.of_own hown)
          obtain ⟨A5, c5, rfl, hc5, -⟩ := hx.form
          clear hown
          go_wp2_with (go_at_call 122; refine (clip_calls A5 _ c5 _ hc5).mono ?_; rintro e w9 ⟨rfl, rfl⟩)
          go_ret
          rw [HNC.out]
          exact ⟨⟨_, rfl, BytesAt.clip hx⟩, hB⟩
end Ce
end Go.Proofs.YthfpfomifebpbaaGreat

namespace Go.Proofs.YthfpfomifebpbaaGreat
open Go.RowKit Go.Shelf
namespace CatB

/-- a part: its address, length, capacity, cells -/
abbrev Part := Option Addr × Nat × Nat × List Value
def pv (p : Part) : Value := .slice p.1 p.2.1 p.2.2.1
def lens : List Part → Nat
  | [] => 0
  | p :: r => p.2.1 + lens r
def all (l : List Part) : List Value := (l.map (·.2.2.2)).flatten
theorem lens_le (l : List Part) (k : Nat) : lens (l.take k) ≤ lens l := by
  induction l generalizing k with
  | nil => simp [lens]
  | cons p r ih =>
    cases k with
    | zero => simp [lens]
    | succ k => simp only [List.take_succ_cons, lens]; have := ih k; omega
theorem lens_succ (l : List Part) (k : Nat) (h : k < l.length) : lens (l.take (k + 1)) = lens (l.take k) + l[k].2.1 := by
  induction l generalizing k with
  | nil => simp at h
  | cons p r ih =>
    cases k with
    | zero => simp [lens]
    | succ k => simp only [List.take_succ_cons, lens, List.getElem_cons_succ]; rw [ih k (by simpa using h)]; omega
theorem all_succ (l : List Part) (k : Nat) (h : k < l.length) : all (l.take (k + 1)) = all (l.take k) ++ l[k].2.2.2 := by
  unfold all
  induction l generalizing k with
  | nil => simp at h
  | cons p r ih =>
    cases k with
    | zero => simp
    | succ k =>
      simp only [List.take_succ_cons, List.map_cons, List.flatten_cons, List.getElem_cons_succ, List.append_assoc]
      rw [ih k (by simpa using h)]

set_option maxHeartbeats 1000000 in
theorem grow_calls (n : Nat) (w : World) (hn : n ≤ 1000000) :
    Calls Tryz.prog 140 #[.slice none 0 0, .int .i64 n] w fun e w' => (∃ v, e = .returned v ∧ w'.ownsRow w.heap.size 5 1 v 0 []) ∧ Below w.heap.size w w' := by
  cases n with
  | zero =>
    refine (Any8.slices_Grow_room Tryz.grow140 none 0 0 0 w (by omega) (by omega) (by omega) (by omega)).mono ?_
    rintro e w' ⟨rfl, rfl⟩
    exact ⟨⟨_, rfl, World.ownsRow_nil _ _ _ _⟩, Below.refl _ _⟩
  | succ n =>
    obtain ⟨i0, hi0, hz0⟩ := Option.map_eq_some_iff.1 Ce.byte_info
    simp only [Prod.mk.injEq] at hz0
    obtain ⟨hz0, hz1, hz2⟩ := hz0
    refine (Any8.slices_Grow_grow Tryz.grow140 i0 _ hi0 hz0 (by omega) none 0 0 (n + 1) [] w (by omega) (by omega) (by rw [hz2]; omega) (by omega) (by simp) (by simp) (by simp)).mono ?_
    rintro e w' ⟨rfl, rfl⟩
    have hG := grownCap_le_maxLen w (0 + (n + 1)) 0 (Tryz.grow140_ren.t 25) (by unfold maxLen; omega)
    have hge := grownCap_ge w (0 + (n + 1)) 0 (Tryz.grow140_ren.t 25)
    refine ⟨⟨_, rfl, ?_⟩, ((Below.refl w.heap.size w).drew).alloc (Nat.le_refl _) _⟩
    refine World.ownsRow_made w.drew _ _ (Nat.le_refl _) hG ?_
    generalize grownCap w (0 + (n + 1)) 0 (Tryz.grow140_ren.t 25) = G at *
    simp only [Array.size_append, size_zeroCells, Value.cells]
    simp
    omega

/-- the parts lie in memory -/
structure Parts (w : World) (B : Nat) (l : List Part) : Prop where
  sl : ∀ p ∈ l, Sl w 0 B 1 (pv p) p.2.1 p.2.2.2
  one : ∀ p ∈ l, ∀ y ∈ p.2.2.2, y.oneCell' = true

set_option maxRecDepth 100000 in
set_option maxHeartbeats 4000000 in
theorem concat_calls (l : List Part) (bk c : Nat) (w : World) (hlc : l.length ≤ c) (hc : c ≤ maxLen) (hbk : bk < w.heap.size) (hcell : ∀ j (h : j < l.length), w.cell? ⟨bk, j, none⟩ = some (pv l[j])) (hp : Parts w w.heap.size l) (hlen : lens l ≤ 1000000) :
    Calls Tryz.prog 120 #[.slice (some ⟨bk, 0, none⟩) l.length c] w fun e w' => (∃ v, e = .returned v ∧ w'.ownsRow w.heap.size 5 1 v (lens l) (all l)) ∧ Below w.heap.size w w' := by
  have HC := Lib.hid hcell
  clear hcell
  unfold maxLen at hc
  have cG := Lib.hid (fun W => grow_calls (lens l) W hlen)
  have hle := Lib.hid (lens_le l)
  have hls := Lib.hid (lens_succ l)
  have hla := Lib.hid (show lens (l.take l.length) = lens l by rw [List.take_length])
  have hal := Lib.hid (show all (l.take l.length) = all l by rw [List.take_length])
  have has := Lib.hid (all_succ l)
  generalize lens l = T at *
  go_enter Tryz.func120, Tryz.ntmps120
  go_wp2_with fail
  go_loop [3, 5, 11] (fun s _ i => ∃ k : Nat, k ≤ l.length ∧ i = .int .i64 k ∧ s = .int .i64 (lens (l.take k))) (fun _ _ i => l.length - (intOf i).toNat)
  case atStart => exact ⟨0, by omega, rfl, rfl⟩
  case round =>
    obtain ⟨k, hk, rfl, rfl⟩ := hrel
    by_cases hlt : k < l.length
    · have hck := HC.out k hlt
      have hS0 := hls.out k hlt
      have h1 := hle.out k
      have h2 := hle.out (k + 1)
      rw [hS0] at h2
      generalize l[k] = p at hck hS0 h2
      obtain ⟨A, n, c', xs⟩ := p
      simp only [pv] at hck
      dsimp only at h2 hS0
      have hS := Lib.hid hS0
      clear hS0
      generalize lens (l.take k) = S at *
      have hneg : decide (((S : Int) + (n : Int)) < 0) = false := by simp; omega
      have hw : wrap64 ((S : Int) + (n : Int)) = (S : Int) + (n : Int) := by unfold wrap64; omega
      go_wp2
      go_round
      case rel => exact ⟨k + 1, by omega, by go_num, by rw [hS.out]; go_num⟩
      case measure => simp [intOf]; omega
    · obtain rfl : k = l.length := by omega
      rw [hla.out]
      go_wp2_with fail
      refine (cG.out _).mono ?_
      rintro e w1 ⟨⟨v, rfl, hv⟩, h1⟩
      have hs1 := h1.size
      go_wp2_with fail
      go_loopw [6, 8, 27] (fun u _ i wr => ∃ k : Nat, k ≤ l.length ∧ i = .int .i64 k ∧ wr.ownsRow w.heap.size 5 1 u (lens (l.take k)) (all (l.take k)) ∧ Below w.heap.size w wr) (fun _ _ i _ => l.length - (intOf i).toNat)
      case atStart => exact ⟨0, by omega, rfl, hv, h1⟩
      case round =>
        obtain ⟨k, hk, rfl, hown, hB⟩ := hrel
        by_cases hlt : k < l.length
        · have hck0 := HC.out k hlt
          have hck := (hB.cell (p := ⟨bk, k, none⟩) hbk).trans hck0
          have hsl := (hp.sl _ (List.getElem_mem hlt)).below hB
          have hone := Lib.hid (hp.one _ (List.getElem_mem hlt))
          have hS0 := hls.out k hlt
          have hA0 := has.out k hlt
          have h2 := hle.out (k + 1)
          rw [hS0] at h2
          clear hck0
          generalize l[k] = p at hck hS0 hA0 h2 hsl hone
          obtain ⟨A, n, c', xs⟩ := p
          simp only [pv] at hck hsl
          dsimp only at h2 hS0 hA0 hsl hone
          have hS := Lib.hid hS0
          have hA := Lib.hid hA0
          clear hS0 hA0
          generalize lens (l.take k) = S at *
          generalize all (l.take k) = X at *
          obtain ⟨i0, hi0, hz0⟩ := Option.map_eq_some_iff.1 Ce.byte_info
          simp only [Prod.mk.injEq] at hz0
          obtain ⟨hz0, hz1, hz2⟩ := hz0
          go_wp2_with (at_builtin
                       refine wpList_append_sl _ rfl (.tmp 31) (.tmp 32) _ rfl w.heap.size 5 i0 _ 1 1 Tryz.underlying39 hi0 hz0 hz1 hz2 rfl (by omega) u6 S X rfl hown 0 w.heap.size _ n xs rfl hsl hone.out (by unfold maxLen; omega) (by omega) hB.size ?_
                       intro v1 w5 hv1 hg1 hat1)
          go_roundw
          case rel => exact ⟨k + 1, by omega, by go_num, by rw [hS.out, hA.out]; exact hv1, hB.grown hg1 hB.size (fun g hg => (hown.lt g hg).1)⟩
          case measure => simp [intOf]; omega
        · obtain rfl : k = l.length := by omega
          rw [hla.out, hal.out] at hown
          obtain ⟨A5, c5, rfl, -⟩ := (Sl.of_own hown).at_
          go_wp2
          go_ret
          exact ⟨⟨_, rfl, hown⟩, hB⟩
end CatB
end Go.Proofs.YthfpfomifebpbaaGreat

namespace Go.Proofs.YthfpfomifebpbaaGreat
open Go.RowKit
namespace Ce
open It

/-- a text of bytes -/
def bs (l : List UInt8) : ByteArray := ⟨l.toArray⟩
theorem bs_size (l : List UInt8) : (bs l).size = l.length := by simp [bs, ByteArray.size]
theorem bs_data (l : List UInt8) : (bs l).data.toList = l := rfl
theorem bs_of (s : ByteArray) : bs s.data.toList = s := by
  cases s; rfl
/-- what is left of a code; none: it is at fault -/
abbrev Tst := Option (List UInt8)
def tNum (least most : Int) : Tst → Int × Tst
  | none => (0, none)
  | some l => match firstC l with
    | some (n, k) => if n < least ∨ most < n then (0, none) else (n, some (l.drop k))
    | none => (0, none)
theorem tNum_none (least most : Int) : tNum least most none = (0, none) := rfl
theorem tNum_bad {least most : Int} {l : List UInt8} (h : firstC l = none) : tNum least most (some l) = (0, none) := by
  simp only [tNum, h]
theorem tNum_out {least most n : Int} {l : List UInt8} {k : Nat} (h : firstC l = some (n, k)) (h2 : n < least ∨ most < n) : tNum least most (some l) = (0, none) := by
  simp only [tNum, h]; exact if_pos h2
theorem tNum_in {least most n : Int} {l : List UInt8} {k : Nat} (h : firstC l = some (n, k)) (h2 : ¬ (n < least ∨ most < n)) : tNum least most (some l) = (n, some (l.drop k)) := by
  simp only [tNum, h]; exact if_neg h2
theorem tNum_zero {least most : Int} {s : Tst} (h : (tNum least most s).2 = none) : (tNum least most s).1 = 0 := by
  cases s with
  | none => rfl
  | some l =>
    cases hf : firstC l with
    | none => rw [tNum_bad hf]
    | some x =>
      obtain ⟨n, k⟩ := x
      by_cases h2 : n < least ∨ most < n
      · rw [tNum_out hf h2]
      · rw [tNum_in hf h2] at h; cases h
theorem tNum_some {least most n : Int} {s : Tst} {r : List UInt8} (h : tNum least most s = (n, some r)) : ∃ l, s = some l ∧ l = numC n ++ r ∧ least ≤ n ∧ n ≤ most := by
  cases s with
  | none => cases h
  | some l =>
    cases hf : firstC l with
    | none => rw [tNum_bad hf] at h; cases h
    | some x =>
      obtain ⟨m, k⟩ := x
      by_cases h2 : m < least ∨ most < m
      · rw [tNum_out hf h2] at h; cases h
      · rw [tNum_in hf h2] at h
        simp only [Prod.mk.injEq, Option.some.injEq] at h
        obtain ⟨rfl, rfl⟩ := h
        have := (firstC_some hf).1
        exact ⟨l, rfl, by rw [this, List.take_append_drop], by omega, by omega⟩
theorem tNum_range {least most : Int} {s : Tst} (h1 : least ≤ 0) (h2 : 0 ≤ most) : least ≤ (tNum least most s).1 ∧ (tNum least most s).1 ≤ most := by
  cases hs : tNum least most s with
  | mk n r =>
    cases r with
    | none => have := tNum_zero (least := least) (most := most) (s := s) (by rw [hs]); rw [hs] at this; simp only at this ⊢; omega
    | some r => obtain ⟨_, _, _, h3, h4⟩ := tNum_some hs; exact ⟨h3, h4⟩
theorem tNum_put {least most n : Int} (r : List UInt8) (h1 : -9223372036854775808 ≤ n) (h2 : n ≤ 9223372036854775807) (h3 : least ≤ n) (h4 : n ≤ most) : tNum least most (some (numC n ++ r)) = (n, some r) := by
  rw [tNum_in (firstC_numC h1 h2 r) (by omega)]
  simp
def tText (most : Int) (s : Tst) : List UInt8 × Tst :=
  match tNum 0 most s with
  | (n, some l) => if (l.length : Int) < n then ([], none) else (l.take n.toNat, some (l.drop n.toNat))
  | (_, none) => ([], none)
theorem tText_bad {most : Int} {s : Tst} (h : (tNum 0 most s).2 = none) : tText most s = ([], none) := by
  unfold tText
  cases hs : tNum 0 most s with
  | mk n r =>
    cases r with
    | none => rfl
    | some r => rw [hs] at h; cases h
theorem tText_long {most n : Int} {s : Tst} {l : List UInt8} (h : tNum 0 most s = (n, some l)) (h2 : (l.length : Int) < n) : tText most s = ([], none) := by
  unfold tText; rw [h]; exact if_pos h2
theorem tText_ok {most n : Int} {s : Tst} {l : List UInt8} (h : tNum 0 most s = (n, some l)) (h2 : ¬ (l.length : Int) < n) : tText most s = (l.take n.toNat, some (l.drop n.toNat)) := by
  unfold tText; rw [h]; exact if_neg h2
theorem tText_some {most : Int} {s : Tst} {x r : List UInt8} (h : tText most s = (x, some r)) : s = some (numC x.length ++ (x ++ r)) ∧ (x.length : Int) ≤ most := by
  cases hs : tNum 0 most s with
  | mk n o =>
    cases o with
    | none => rw [tText_bad (by rw [hs])] at h; cases h
    | some l =>
      by_cases h2 : (l.length : Int) < n
      · rw [tText_long hs h2] at h; cases h
      · rw [tText_ok hs h2] at h
        simp only [Prod.mk.injEq, Option.some.injEq] at h
        obtain ⟨rfl, rfl⟩ := h
        obtain ⟨q, rfl, rfl, h3, h4⟩ := tNum_some hs
        have e : ((l.take n.toNat).length : Int) = n := by rw [List.length_take]; omega
        rw [List.take_append_drop, e]
        exact ⟨rfl, h4⟩
theorem tText_none {most : Int} : tText most none = ([], none) := rfl
theorem tText_empty {most : Int} {s : Tst} (h : (tText most s).2 = none) : (tText most s).1 = [] := by
  cases hs : tText most s with
  | mk x o =>
    cases o with
    | some r => rw [hs] at h; cases h
    | none =>
      cases ht : tNum 0 most s with
      | mk n o =>
        cases o with
        | none => rw [tText_bad (by rw [ht])] at hs; cases hs; rfl
        | some l =>
          by_cases h2 : (l.length : Int) < n
          · rw [tText_long ht h2] at hs; cases hs; rfl
          · rw [tText_ok ht h2] at hs; cases hs
theorem tText_put {most : Int} (x r : List UInt8) (h1 : (x.length : Int) ≤ most) (h2 : (x.length : Int) ≤ 9223372036854775807) : tText most (some (numC x.length ++ (x ++ r))) = (x, some r) := by
  rw [tText_ok (tNum_put (x ++ r) (by omega) h2 (by omega) h1) (by simp; omega)]
  simp
/-- a taker that first lowers its bound to what is left -/
theorem tText_min {most : Int} {l : List UInt8} (_hm : 0 ≤ most) :
    (match tNum 0 (if most > (l.length : Int) then (l.length : Int) else most) (some l) with
      | (n, some r) => if (r.length : Int) < n then (([] : List UInt8), (none : Tst)) else (r.take n.toNat, some (r.drop n.toNat))
      | (_, none) => ([], none)) = tText most (some l) := by
  by_cases h : most > (l.length : Int)
  · rw [if_pos h]
    cases hf : firstC l with
    | none => rw [tNum_bad hf, tText_bad (by rw [tNum_bad hf])]
    | some x =>
      obtain ⟨n, k⟩ := x
      have hk := firstC_some hf
      by_cases h2 : n < 0 ∨ most < n
      · rw [tNum_out hf (by omega), tText_bad (by rw [tNum_out hf h2])]
      · by_cases h3 : (l.length : Int) < n
        · rw [tNum_out hf (by omega), tText_long (tNum_in hf h2) (by simp; omega)]
        · rw [tNum_in hf (by omega)]
          unfold tText
          rw [tNum_in hf h2]
  · rw [if_neg h]; rfl

/-- one good, and how many -/
abbrev Rst := List It.Item × Tst
def rRound (s : Rst) : Rst := (s.1 ++ [(bs (tText 16 s.2).1, (tNum 1 1099511627776 (tText 16 s.2).2).1)], (tNum 1 1099511627776 (tText 16 s.2).2).2)
def rIt (s : Rst) : Nat → Rst
  | 0 => s
  | k + 1 => rRound (rIt s k)
theorem rIt_len (s : Rst) (k : Nat) : (rIt s k).1.length = s.1.length + k := by
  induction k with
  | zero => rfl
  | succ k ih => simp only [rIt, rRound, List.length_append, ih, List.length_cons, List.length_nil]; omega
def readI (s : Tst) : List It.Item × Tst :=
  if may (rIt ([], (tNum 0 16 s).2) (tNum 0 16 s).1.toNat).1 then rIt ([], (tNum 0 16 s).2) (tNum 0 16 s).1.toNat else ([], none)
theorem may_pos {l : List It.Item} {x : It.Item} (hx : x ∈ l) (h : x.2 = 0) : may l = false := by
  cases hm : may l with
  | false => rfl
  | true =>
    have := (may_iff l).1 hm
    have := this.ok x hx
    omega
theorem rIt_none (s : Rst) (k : Nat) (hk : 0 < k) (h : (rIt s k).2 = none) : may (rIt s k).1 = false := by
  cases k with
  | zero => omega
  | succ k =>
    simp only [rIt, rRound] at h ⊢
    exact may_pos (List.mem_append_right _ (List.mem_singleton.2 rfl)) (tNum_zero h)
theorem rIt_stays (s : Rst) (j k : Nat) (hjk : j ≤ k) (h : (rIt s j).2 = none) : (rIt s k).2 = none := by
  induction k with
  | zero => obtain rfl : j = 0 := by omega
            exact h
  | succ k ih =>
    rcases Nat.lt_or_ge k j with h1 | h1
    · obtain rfl : j = k + 1 := by omega
      exact h
    · simp only [rIt, rRound]
      rw [ih h1, tText_none, tNum_none]
theorem rIt_fits (s : Rst) (hs : ∀ x ∈ s.1, x.1.size ≤ maxLen ∧ -9223372036854775808 ≤ x.2 ∧ x.2 ≤ 9223372036854775807) (k : Nat) : Fits (rIt s k).1 := by
  induction k with
  | zero => exact hs
  | succ k ih =>
    intro x hx
    simp only [rIt, rRound] at hx
    rcases List.mem_append.1 hx with h | h
    · exact ih x h
    · rw [List.mem_singleton.1 h]
      refine ⟨?_, ?_, ?_⟩
      · dsimp only
        rw [bs_size]
        cases ht : tText 16 (rIt s k).2 with
        | mk y o =>
          cases o with
          | none => have := tText_empty (by rw [ht] : (tText 16 (rIt s k).2).2 = none); rw [ht] at this; rw [this]; simp
          | some r => have := (tText_some ht).2; unfold maxLen; dsimp only; omega
      all_goals
        dsimp only
        cases hn : tNum 1 1099511627776 (tText 16 (rIt s k).2).2 with
        | mk n o =>
          cases o with
          | none => have := tNum_zero (by rw [hn] : (tNum 1 1099511627776 (tText 16 (rIt s k).2).2).2 = none); rw [hn] at this; dsimp only at this ⊢; omega
          | some r => obtain ⟨_, _, _, h1, h2⟩ := tNum_some hn; dsimp only; omega
/-- the document's reading: it stops at a fault -/
theorem readI_stop {s : Tst} {j : Nat} (hj : (j : Int) ≤ (tNum 0 16 s).1) (h : (j : Int) = (tNum 0 16 s).1 ∨ (rIt ([], (tNum 0 16 s).2) j).2 = none) :
    ((rIt ([], (tNum 0 16 s).2) j).2.isSome && may (rIt ([], (tNum 0 16 s).2) j).1) = (readI s).2.isSome ∧
    (((rIt ([], (tNum 0 16 s).2) j).2.isSome && may (rIt ([], (tNum 0 16 s).2) j).1) = true → readI s = rIt ([], (tNum 0 16 s).2) j) ∧
    (((rIt ([], (tNum 0 16 s).2) j).2.isSome && may (rIt ([], (tNum 0 16 s).2) j).1) = false → (readI s).1 = []) := by
  rcases h with h | h
  · have e : (tNum 0 16 s).1.toNat = j := by omega
    unfold readI
    rw [e]
    cases hm : may (rIt ([], (tNum 0 16 s).2) j).1 with
    | true =>
      rw [if_pos rfl]
      refine ⟨by simp, fun _ => rfl, fun h0 => ?_⟩
      simp only [Bool.and_true] at h0
      have hn : (rIt ([], (tNum 0 16 s).2) j).2 = none := by simpa using h0
      rcases Nat.eq_zero_or_pos j with h1 | h1
      · rw [h1]; rfl
      · rw [rIt_none _ _ h1 hn] at hm; cases hm
    | false => simp
  · have hz : (rIt ([], (tNum 0 16 s).2) (tNum 0 16 s).1.toNat).2 = none := rIt_stays _ j _ (by omega) h
    have hr : readI s = ([], none) := by
      unfold readI
      rcases Nat.eq_zero_or_pos (tNum 0 16 s).1.toNat with h1 | h1
      · rw [h1] at hz ⊢
        simp only [rIt] at hz ⊢
        rw [hz]
        exact ite_self _
      · rw [rIt_none _ _ h1 hz]; rfl
    rw [h, hr]
    simp
theorem readI_none {s : Tst} (h : (readI s).2 = none) : (readI s).1 = [] := by
  unfold readI at h ⊢
  cases hm : may (rIt ([], (tNum 0 16 s).2) (tNum 0 16 s).1.toNat).1 with
  | false => rfl
  | true =>
    rw [hm, if_pos rfl] at h
    rw [if_pos rfl]
    rcases Nat.eq_zero_or_pos (tNum 0 16 s).1.toNat with h1 | h1
    · rw [h1]; rfl
    · rw [rIt_none _ _ h1 h] at hm; cases hm
theorem readI_may {s : Tst} : may (readI s).1 = true := by
  unfold readI
  cases hm : may (rIt ([], (tNum 0 16 s).2) (tNum 0 16 s).1.toNat).1 with
  | false => rfl
  | true => rw [if_pos rfl]; exact hm

/-- the cells of goods -/
def cellsI (l : List It.Item) : List UInt8 := l.flatMap fun x => numC x.1.size ++ (x.1.data.toList ++ numC x.2)
def encI (l : List It.Item) : List UInt8 := numC l.length ++ cellsI l
theorem cellsI_snoc (l : List It.Item) (x : It.Item) : cellsI (l ++ [x]) = cellsI l ++ (numC x.1.size ++ (x.1.data.toList ++ numC x.2)) := by simp [cellsI]
theorem cellsI_cons (l : List It.Item) (x : It.Item) : cellsI (x :: l) = numC x.1.size ++ (x.1.data.toList ++ numC x.2) ++ cellsI l := by simp [cellsI]
theorem cellsI_len {l : List It.Item} (h : ∀ x ∈ l, x.1.size ≤ 16) : (cellsI l).length ≤ l.length * 34 := by
  induction l with
  | nil => simp [cellsI]
  | cons x r ih =>
    rw [cellsI_cons]
    have h1 := ih fun y hy => h y (List.mem_cons_of_mem _ hy)
    have h2 := h x (List.mem_cons_self ..)
    have h3 := (numC_len x.1.size).2
    have h4 := (numC_len x.2).2
    have h5 : x.1.data.toList.length = x.1.size := Array.length_toList
    simp only [List.length_append, List.length_cons]
    omega
theorem good_size {s : ByteArray} (h : good s = true) : 1 ≤ s.size ∧ s.size ≤ 16 := by
  unfold good at h
  simp only [Bool.and_eq_true, decide_eq_true_eq] at h
  omega
theorem encI_len {l : List It.Item} (h : may l = true) : (encI l).length ≤ 600 := by
  have hM := (may_iff l).1 h
  have h1 := cellsI_len (l := l) fun x hx => (good_size (hM.ok x hx).1).2
  have h2 := may_len h
  have h3 := (numC_len l.length).2
  unfold encI
  rw [List.length_append]
  omega
/-- what was put is taken again -/
theorem rIt_put {l : List It.Item} (h : may l = true) (r : List UInt8) : ∀ k, k ≤ l.length → rIt ([], some (cellsI l ++ r)) k = (l.take k, some (cellsI (l.drop k) ++ r))
  | 0, _ => rfl
  | k + 1, hk => by
    have hM := (may_iff l).1 h
    simp only [rIt]
    rw [rIt_put h r k (by omega)]
    have hx := hM.ok l[k] (List.getElem_mem _)
    have hg := good_size (hM.ok l[k] (List.getElem_mem _)).1
    have hl : l[k].1.data.toList.length = l[k].1.size := Array.length_toList
    unfold rRound
    dsimp only
    rw [List.drop_eq_getElem_cons (by omega), cellsI_cons]
    have e : numC l[k].1.size ++ (l[k].1.data.toList ++ numC l[k].2) ++ cellsI (l.drop (k + 1)) ++ r = numC (l[k].1.data.toList.length) ++ (l[k].1.data.toList ++ (numC l[k].2 ++ (cellsI (l.drop (k + 1)) ++ r))) := by
      rw [hl]; simp [List.append_assoc]
    rw [e, tText_put _ _ (by omega) (by omega)]
    dsimp only
    rw [tNum_put _ (by omega) (by omega) (by omega) (by omega)]
    dsimp only
    rw [bs_of, List.take_succ_eq_append_getElem (by omega)]
theorem readI_put {l : List It.Item} (h : may l = true) (r : List UInt8) : readI (some (encI l ++ r)) = (l, some r) := by
  have h2 := may_len h
  have e : tNum 0 16 (some (encI l ++ r)) = ((l.length : Int), some (cellsI l ++ r)) := by
    unfold encI
    rw [List.append_assoc]
    exact tNum_put _ (by omega) (by omega) (by omega) (by omega)
  unfold readI
  rw [e]
  dsimp only
  rw [Int.toNat_natCast, rIt_put h r _ (Nat.le_refl _), List.take_length, if_pos h, List.drop_length]
  rfl
/-- what was taken was put so -/
theorem rIt_took {l : List UInt8} : ∀ (k : Nat) (r : List UInt8), (rIt ([], some l) k).2 = some r → l = cellsI (rIt ([], some l) k).1 ++ r
  | 0, r, h => by cases h; rfl
  | k + 1, r, h => by
    simp only [rIt] at h ⊢
    unfold rRound at h ⊢
    dsimp only at h ⊢
    cases hn : tNum 1 1099511627776 (tText 16 (rIt ([], some l) k).2).2 with
    | mk n o =>
      rw [hn] at h
      dsimp only at h
      subst h
      obtain ⟨q, hq, hq2, _, _⟩ := tNum_some hn
      cases ht : tText 16 (rIt ([], some l) k).2 with
      | mk x o =>
        rw [ht] at hq
        dsimp only at hq
        subst hq
        have h3 := (tText_some ht).1
        have ih := rIt_took k _ h3
        refine ih.trans ?_
        rw [cellsI_snoc, hq2]
        dsimp only
        rw [bs_size, bs_data]
        simp [List.append_assoc]
theorem readI_took {b r : List UInt8} (h : (readI (some b)).2 = some r) : b = encI (readI (some b)).1 ++ r := by
  unfold readI at h ⊢
  cases hm : may (rIt ([], (tNum 0 16 (some b)).2) (tNum 0 16 (some b)).1.toNat).1 with
  | false => rw [hm] at h; cases h
  | true =>
    rw [hm, if_pos rfl] at h
    rw [if_pos rfl]
    cases hn : tNum 0 16 (some b) with
    | mk n o =>
      rw [hn] at h
      dsimp only at h ⊢
      cases o with
      | none =>
        rcases Nat.eq_zero_or_pos n.toNat with h1 | h1
        · rw [h1] at h; cases h
        · rw [rIt_stays ([], none) 0 n.toNat (by omega) rfl] at h; cases h
      | some l =>
        obtain ⟨q, hq, hq2, h3, h4⟩ := tNum_some hn
        cases hq
        have h5 := rIt_took _ _ h
        have h6 := rIt_len ([], some l) n.toNat
        simp only [List.length_nil, Nat.zero_add] at h6
        unfold encI
        rw [List.append_assoc, ← h5, h6, show ((n.toNat : Nat) : Int) = n by omega]
        exact hq2
end Ce
end Go.Proofs.YthfpfomifebpbaaGreat

namespace Go.Proofs.YthfpfomifebpbaaGreat
open Go.RowKit
namespace Ce

theorem BytesAt.all {w : World} {lo : Nat} {v : Value} {l : List UInt8} (h : w.ownsRow lo 5 1 v l.length (bytesV l)) : BytesAt w 0 w.heap.size v l := (BytesAt.of_own h).wide (Nat.zero_le _) (Nat.le_refl _)

set_option maxRecDepth 100000 in
set_option maxHeartbeats 1000000 in
theorem cloneb_calls (l : List UInt8) (v : Value) (w : World) (h : BytesAt w 0 w.heap.size v l) (hl : l.length ≤ 140737488351232) :
    Calls Tryz.prog 91 #[v] w fun e w' => (∃ v', e = .returned v' ∧ w'.ownsRow w.heap.size 5 1 v' l.length (bytesV l)) ∧ Below w.heap.size w w' := by
  obtain ⟨i0, hi0, hz0⟩ := Option.map_eq_some_iff.1 byte_info
  simp only [Prod.mk.injEq] at hz0
  obtain ⟨hz0, hz1, hz2⟩ := hz0
  have h0 := h
  have HL := Lib.hid hl
  clear hl
  obtain ⟨A, c, rfl, hc1, hc2⟩ := h.form
  unfold maxLen at hc2
  have heq := Lib.run_eql_slice_nil (P := Tryz.prog) w 39 5 A l.length c 0 0 Tryz.underlying39
  rcases A with _ | ad
  · have hl0 : l = [] := by
      rcases l with _ | ⟨x, r⟩
      · rfl
      · obtain ⟨b, o, e, _⟩ := h.cellAt (j := 0) (by simp)
        cases e
    subst hl0
    simp only [List.length_nil] at heq ⊢
    go_enter Tryz.func91, Tryz.ntmps91
    go_wp2
    go_ret
    exact ⟨⟨_, rfl, World.ownsRow_nil _ _ _ _⟩, Below.refl _ _⟩
  · go_enter Tryz.func91, Tryz.ntmps91
    go_wp2_with (at_builtin
                 refine wpList_append_sl _ rfl (.tmp 5) (.tmp 6) _ rfl w.heap.size 5 i0 _ 1 1 Tryz.underlying39 hi0 hz0 hz1 hz2 rfl (by omega) (.slice (some ⟨w.heap.size, 0, none⟩) 0 0) 0 [] rfl (World.ownsRow_lit w #[] 0 (Nat.le_refl _) (Nat.zero_le _) rfl) 0 w.heap.size _ l.length (bytesV l) rfl (Sl.below h0 ((Below.refl _ w).alloc (Nat.le_refl _) _)) (bytesV_one l) (by have := HL.out; unfold maxLen; omega) (by have := HL.out; omega) (by simp) ?_
                 intro v1 w1 hv1 hg1 hat1
                 have hB : Below w.heap.size w w1 := ((Below.refl _ w).alloc (Nat.le_refl _) (.cells #[] 5)).grown hg1 (by simp) (fun g hg => by cases hg; exact Nat.le_refl _)
                 clear hg1 hat1)
    have hown : w1.ownsRow w.heap.size 5 1 v1 l.length (bytesV l) := by simpa using hv1
    obtain ⟨A1, c1, rfl, -⟩ := (BytesAt.of_own hown).form
    clear hv1
    go_wp2
    go_ret
    exact ⟨⟨_, rfl, hown⟩, hB⟩

/-- the state of a maker behind one more cell -/
def mPut (s : List UInt8 × Bool) (c : List UInt8) : List UInt8 × Bool := if s.2 then s else if 262144 < s.1.length + c.length then (s.1, true) else (s.1 ++ c, false)
/-- a maker of the program's: its cells so far, and whether there were too many; Fr: blocks that are not its own -/
def Mk (w : World) (bm : Nat) (Fr : Nat → Prop) (s : List UInt8 × Bool) : Prop :=
  s.1.length ≤ 262144 ∧ ¬ Fr bm ∧ (∀ i, Fr i → i < w.heap.size) ∧
  ∃ v, Ob w bm 117 #[v, .bool s.2] ∧ w.ownsRow (bm + 1) 5 1 v s.1.length (bytesV s.1) ∧ (∀ g, v.ownBlock = some g → ¬ Fr g)
theorem Mk.lt {w : World} {bm : Nat} {Fr : Nat → Prop} {s : List UInt8 × Bool} (h : Mk w bm Fr s) : bm < w.heap.size := by
  obtain ⟨_, _, _, v, ho, _⟩ := h
  exact ho.lt
/-- what was made behind it is kept, too -/
theorem Mk.later {w w' : World} {bm : Nat} {Fr Fr' : Nat → Prop} {s : List UInt8 × Bool} (h : Mk w bm Fr s) (hb : Below w.heap.size w w') (hF : ∀ i, Fr' i → (Fr i ∨ w.heap.size ≤ i) ∧ i < w'.heap.size) : Mk w' bm Fr' s := by
  obtain ⟨h1, h2, h3, v, ho, hr, hg⟩ := h
  have hlt := ho.lt
  refine ⟨h1, fun hf => ?_, fun i hi => (hF i hi).2, v, ho.same hb, ownsRow_below hr hb, fun g hg' hf => ?_⟩
  · rcases (hF _ hf).1 with h | h
    · exact h2 h
    · omega
  · rcases (hF _ hf).1 with h | h
    · exact hg g hg' h
    · have := (hr.lt g hg').2; omega
theorem ownsRow_set {w : World} {lo b j : Nat} {e : TypeId} {size n : Nat} {v u : Value} {xs : List Value} (h : w.ownsRow lo e size v n xs) (hb : b < lo) : (w.setCell ⟨b, j, none⟩ u).ownsRow lo e size v n xs := by
  refine h.kept (grownBy_set w b j u) ?_
  cases hv : v.ownBlock with
  | none => simp
  | some g => have := (h.lt g hv).1; exact .inr (by simp; omega)
theorem new_calls (w : World) :
    Calls Tryz.prog 48 #[] w fun e w' => e = .returned (.pointer (some ⟨w.heap.size, 0, none⟩)) ∧ w.alloc (.cells #[.slice none 0 0, .bool false] 117) = w' := by
  go_enter Tryz.func48, Tryz.ntmps48
  go_wp2
  go_ret
  exact ⟨rfl, rfl⟩
theorem Mk.new (w : World) (Fr : Nat → Prop) (hF : ∀ i, Fr i → i < w.heap.size) : Mk (w.alloc (.cells #[.slice none 0 0, .bool false] 117)) w.heap.size Fr ([], false) :=
  ⟨by simp, fun h => by have := hF _ h; omega, fun i hi => by have := hF i hi; simp; omega, _, Ob.new _ _ _, World.ownsRow_nil _ _ _ _, fun g hg => by cases hg⟩

set_option maxRecDepth 100000 in
set_option maxHeartbeats 4000000 in
theorem put_calls (x : List UInt8) (l : List CatB.Part) (bk bm : Nat) (Fr : Nat → Prop) (s : List UInt8 × Bool) (w : World) (hM : Mk w bm Fr s) (hbk : bk < w.heap.size) (hll : l.length ≤ 100) (hcell : ∀ j (h : j < l.length), w.cell? ⟨bk, j, none⟩ = some (CatB.pv l[j]))
    (hp : CatB.Parts w w.heap.size l) (hx : CatB.all l = bytesV x) (hlx : CatB.lens l = x.length) (hlen : x.length ≤ 1000000) :
    Calls Tryz.prog 89 #[.pointer (some ⟨bm, 0, none⟩), .slice (some ⟨bk, 0, none⟩) l.length l.length] w fun e w' => e = .returned (.pointer (some ⟨bm, 0, none⟩)) ∧ Mk w' bm Fr (mPut s x) ∧ Kept Fr w w' := by
  obtain ⟨i0, hi0, hz0⟩ := Option.map_eq_some_iff.1 byte_info
  simp only [Prod.mk.injEq] at hz0
  obtain ⟨hz0, hz1, hz2⟩ := hz0
  have cC := Lib.hid (CatB.concat_calls l bk l.length w (Nat.le_refl _) (by unfold maxLen; omega) hbk hcell hp (by omega))
  rw [hx, hlx] at cC
  clear hcell hp hx hlx
  obtain ⟨S, long⟩ := s
  obtain ⟨hM1, hM2, hM3, v, hO, hR, hG⟩ := hM
  dsimp only at hM1 hO hR
  obtain ⟨A, c, rfl, hc1, hc2⟩ := (BytesAt.of_own hR).form
  have hFlt := Lib.hid hM3
  have hGr := Lib.hid hG
  clear hG hM3
  go_enter Tryz.func89, Tryz.ntmps89
  go_wp2_with fail
  refine cC.out.mono ?_
  rintro e W1 ⟨⟨cv, rfl, hcv⟩, hB⟩
  have hO1 := hO.same hB
  have hR1 := ownsRow_below hR hB
  have hbm := hO.lt
  have hK1 : Kept Fr w W1 := Kept.of_below hB hFlt.out
  have hs1 := hB.size
  have hcB := BytesAt.of_own hcv
  obtain ⟨A1, c1, rfl, hc3, -⟩ := hcB.form
  have g0 := hO1.cell (j := 0) rfl
  have g1 := hO1.cell (j := 1) rfl
  have f1 := hO1.frozen 1
  have hFlt1 := Lib.hid (fun i hi => Nat.lt_of_lt_of_le (hFlt.out i hi) hs1)
  cases long with
  | true =>
    have HS := Lib.hid (show mPut (S, true) x = (S, true) from rfl)
    have hO2 := hO1.set 1 (.bool true)
    have hR2 := ownsRow_set (b := bm) (j := 1) (u := .bool true) hR1 (by omega)
    have hg2 := grownBy_set W1 bm 1 (.bool true)
    go_wp2
    go_ret
    refine ⟨rfl, ?_, hK1.trans (Kept.of_grown hg2 (fun i hi => ⟨hFlt1.out i hi, fun e => hM2 (by cases e; exact hi)⟩))⟩
    rw [HS.out]
    exact ⟨hM1, hM2, fun i hi => Nat.lt_of_lt_of_le (hFlt1.out i hi) hg2.size, _, hO2, hR2, hGr.out⟩
  | false =>
    by_cases hbig : 262144 < S.length + x.length
    · have HS := Lib.hid (show mPut (S, false) x = (S, true) by unfold mPut; rw [if_neg (by simp)]; exact if_pos hbig)
      have hd : decide ((x.length : Int) > 262144 - (S.length : Int)) = true := by simp; omega
      have hO2 := hO1.set 1 (.bool true)
      have hR2 := ownsRow_set (b := bm) (j := 1) (u := .bool true) hR1 (by omega)
      have hg2 := grownBy_set W1 bm 1 (.bool true)
      clear hbig
      go_wp2
      go_ret
      refine ⟨rfl, ?_, hK1.trans (Kept.of_grown hg2 (fun i hi => ⟨hFlt1.out i hi, fun e => hM2 (by cases e; exact hi)⟩))⟩
      rw [HS.out]
      exact ⟨hM1, hM2, fun i hi => Nat.lt_of_lt_of_le (hFlt1.out i hi) hg2.size, _, hO2, hR2, hGr.out⟩
    · have HS := Lib.hid (show mPut (S, false) x = (S ++ x, false) by unfold mPut; rw [if_neg (by simp)]; exact if_neg hbig)
      have hd : decide ((x.length : Int) > 262144 - (S.length : Int)) = false := by simp; omega
      have hO2 := hO1.set 1 (.bool false)
      have hR2 := ownsRow_set (b := bm) (j := 1) (u := .bool false) hR1 (by omega)
      have hg2 := grownBy_set W1 bm 1 (.bool false)
      have hc2' : BytesAt (W1.setCell ⟨bm, 1, none⟩ (.bool false)) w.heap.size W1.heap.size (.slice A1 x.length c1) x := Sl.grown hcB hg2 (Nat.le_refl _) (fun k e => .inl (by cases e; exact hbm))
      have hKK := hK1.trans (Kept.of_grown hg2 (fun i hi => ⟨hFlt1.out i hi, fun e => hM2 (by cases e; exact hi)⟩))
      have hsz2 := hg2.size
      go_wp2_with (at_builtin
                   refine wpList_append_sl _ rfl (.tmp 37) (.tmp 38) _ rfl (bm + 1) 5 i0 _ 1 1 Tryz.underlying39 hi0 hz0 hz1 hz2 rfl (by omega) (.slice A S.length c) S.length (bytesV S) rfl hR2 w.heap.size W1.heap.size _ x.length (bytesV x) rfl hc2' (bytesV_one x) (by unfold maxLen; omega) (by omega) (by omega) ?_
                   intro v5 w5 hv5 hg5 hat5
                   obtain ⟨A5, c5, rfl, -⟩ := (Sl.of_own hv5).at_
                   have hne : some bm ≠ (Value.slice A S.length c).ownBlock := fun e => (by have := (hR2.lt bm e.symm).1; omega)
                   have hO5 := hO2.kept hg5 hne
                   have g5 := hO5.cell (j := 0) rfl
                   have f5 := hO5.frozen 0)
      have hO6 := hO5.set 0 (.slice A5 (S.length + x.length) c5)
      have hR6 := ownsRow_set (b := bm) (j := 0) (u := .slice A5 (S.length + x.length) c5) hv5 (by omega)
      have hg6 := grownBy_set w5 bm 0 (.slice A5 (S.length + x.length) c5)
      go_wp2
      go_ret
      have hlt2 : ∀ i, Fr i → i < (W1.setCell ⟨bm, 1, none⟩ (.bool false)).heap.size := fun i hi => Nat.lt_of_lt_of_le (hFlt1.out i hi) hsz2
      have hK5 := hKK.trans (Kept.of_grown hg5 (fun i hi => ⟨hlt2 i hi, fun e => hGr.out i e.symm hi⟩))
      have hlt5 : ∀ i, Fr i → i < w5.heap.size := fun i hi => Nat.lt_of_lt_of_le (hlt2 i hi) hg5.size
      refine ⟨rfl, ?_, hK5.trans (Kept.of_grown hg6 (fun i hi => ⟨hlt5 i hi, fun e => hM2 (by cases e; exact hi)⟩))⟩
      rw [HS.out]
      refine ⟨by simp; omega, hM2, fun i hi => Nat.lt_of_lt_of_le (hlt5 i hi) hg6.size, _, hO6, by rw [List.length_append, bytesV_append]; exact hR6, fun g hg hf => ?_⟩
      rcases hat5 with h | h
      · exact hGr.out g (h ▸ hg) hf
      · rw [h] at hg
        cases hg
        have := hlt2 _ hf
        omega
end Ce
end Go.Proofs.YthfpfomifebpbaaGreat

namespace Go.Proofs.YthfpfomifebpbaaGreat
open Go.RowKit
namespace Ce

theorem rowWide {w : World} {lo lo' : Nat} {e : TypeId} {size n : Nat} {v : Value} {xs : List Value} (h : w.ownsRow lo e size v n xs) (hl : lo' ≤ lo) : w.ownsRow lo' e size v n xs := by
  refine ⟨h.1, h.2.elim Or.inl fun hx => .inr ?_⟩
  revert hx
  rintro ⟨g, cap, cur, rfl, hbg, hg⟩
  exact ⟨g, cap, cur, rfl, Nat.le_trans hl hbg, hg⟩

set_option maxRecDepth 100000 in
set_option maxHeartbeats 4000000 in
theorem digits_calls (u : Int) (w : World) (h0 : 0 ≤ u) (h1 : u ≤ 18446744073709551615) :
    Calls Tryz.prog 123 #[.int .u64 u] w fun e w' => (∃ v, e = .returned v ∧ w'.ownsRow w.heap.size 5 1 v (dig u.toNat).length (bytesV (dig u.toNat))) ∧ Below w.heap.size w w' := by
  obtain ⟨i0, hi0, hz0⟩ := Option.map_eq_some_iff.1 byte_info
  simp only [Prod.mk.injEq] at hz0
  obtain ⟨hz0, hz1, hz2⟩ := hz0
  have H8 := dig_len8 u.toNat
  have HD := Lib.hid (show dig u.toNat = dig u.toNat from rfl)
  go_enter Tryz.func123, Tryz.ntmps123
  go_wp2
  go_loopw [0, 3] (fun x o wr => ∃ (y : Int) (l : List UInt8), 0 ≤ y ∧ y ≤ 18446744073709551615 ∧ x = .int .u64 y ∧ dig u.toNat = dig y.toNat ++ l ∧ wr.ownsRow w.heap.size 5 1 o l.length (bytesV l) ∧ Below w.heap.size w wr) (fun x _ _ => (intOf x).toNat)
  case atStart => exact ⟨u, [], h0, h1, rfl, by simp, World.ownsRow_nil _ _ _ _, Below.refl _ _⟩
  case round =>
    obtain ⟨y, l, hy0, hy1, rfl, hl, hown, hB⟩ := hrel
    have hll : l.length ≤ 8 := by
      have := congrArg List.length hl
      simp at this
      omega
    by_cases hpos : 0 < y
    · have hd : decide (y > 0) = true := by simpa using hpos
      have HL := Lib.hid (show dig u.toNat = dig (y / 256).toNat ++ (UInt8.ofNat (y.toNat % 256) :: l) by
        rw [hl, dig_pos (by omega) (by omega), show (y / 256).toNat = y.toNat / 256 by omega]
        simp)
      have HV := Lib.hid (show bytesV (UInt8.ofNat (y.toNat % 256) :: l) = [.int .u8 (y % 256)] ++ bytesV l by
        simp only [bytesV, List.map_cons, List.cons_append, List.nil_append]
        rw [← byte_of (n := y % 256) (by omega) (Nat.mod_lt _ (by omega))])
      clear hl
      have hownE : (wr.alloc (.cells #[.int .u8 (y % 256)] 5)).ownsRow w.heap.size 5 1 (.slice (some ⟨wr.heap.size, 0, none⟩) 1 1) 1 [.int .u8 (y % 256)] := World.ownsRow_lit wr #[.int .u8 (y % 256)] 1 hB.size (by unfold maxLen; omega) rfl
      have hl2 := Sl.below (Sl.of_own hown) (((Below.refl wr.heap.size wr)).alloc (Nat.le_refl _) (.cells #[.int .u8 (y % 256)] 5))
      go_wp2_with (at_builtin
                   refine wpList_append_sl _ rfl (.tmp 9) (.tmp 10) _ rfl w.heap.size 5 i0 _ 1 1 Tryz.underlying39 hi0 hz0 hz1 hz2 rfl (by omega) (.slice (some ⟨wr.heap.size, 0, none⟩) 1 1) 1 _ rfl hownE w.heap.size wr.heap.size _ l.length (bytesV l) rfl hl2 (bytesV_one l) (by unfold maxLen; omega) (by omega) (by have := hB.size; simp; omega) ?_
                   intro v1 w5 hv1 hg1 hat1)
      have hB4 : Below w.heap.size w w5 := (hB.alloc hB.size _).grown hg1 (by have := hB.size; simp; omega) (fun g hg => by cases hg; exact hB.size)
      clear hg1 hat1 hown hownE hl2
      go_roundw
      case rel => exact ⟨y / 256, _, by omega, by omega, rfl, HL.out, by rw [HV.out, List.length_cons, Nat.add_comm]; exact hv1, hB4⟩
      case measure => simp only [intOf]; omega
    · obtain rfl : y = 0 := by omega
      have HL := Lib.hid (show dig u.toNat = l by rw [hl]; rfl)
      clear hl
      obtain ⟨A5, c5, rfl, -⟩ := (BytesAt.of_own hown).form
      go_wp2
      go_ret
      exact ⟨⟨_, rfl, by rw [HL.out]; exact hown⟩, hB⟩

set_option maxRecDepth 100000 in
set_option maxHeartbeats 4000000 in
theorem refnum_own (n : Int) (w : World) (h0 : -9223372036854775808 ≤ n) (h1 : n ≤ 9223372036854775807) :
    Calls Tryz.prog 98 #[.int .i64 n] w fun e w' => (∃ v, e = .returned v ∧ w'.ownsRow w.heap.size 5 1 v (numC n).length (bytesV (numC n))) ∧ Below w.heap.size w w' := by
  obtain ⟨i0, hi0, hz0⟩ := Option.map_eq_some_iff.1 byte_info
  simp only [Prod.mk.injEq] at hz0
  obtain ⟨hz0, hz1, hz2⟩ := hz0
  by_cases hs : 0 ≤ n ∧ n < 128
  · have HS := Lib.hid (numC_small hs)
    obtain ⟨hs1, hs2⟩ := hs
    have hd1 : decide (n ≥ 0) = true := by simpa using hs1
    have hd2 : decide (n < 128) = true := by simpa using hs2
    go_enter Tryz.func98, Tryz.ntmps98
    go_wp2
    go_ret
    refine ⟨⟨_, rfl, ?_⟩, (Below.refl _ w).alloc (Nat.le_refl _) _⟩
    rw [HS.out]
    have := World.ownsRow_lit (size := 1) (base := w.heap.size) (e := 5) w #[.int .u8 n] 1 (Nat.le_refl _) (by unfold maxLen; omega) rfl
    simp only [bytesV, List.map_cons, List.map_nil, List.length_singleton]
    rw [← byte_of (n := n) (by omega) (by omega)]
    exact this
  · by_cases hn : n < 0
    · have hd1 : decide (n ≥ 0) = false := by simp; omega
      have hd3 : decide (n < 0) = true := by simpa using hn
      have hx : IntKind.u64.wrap n = n + 18446744073709551616 := by rw [IntKind.wrap_u64]; omega
      have HNC := Lib.hid (numC_neg hn)
      have h8 := dig_len8 (-1 - n).toNat
      go_enter Tryz.func98, Tryz.ntmps98
      go_wp2_with fail
      refine (digits_calls (n + 18446744073709551616) _ (by omega) (by omega)).mono ?_
      rintro e W1 ⟨⟨v1, rfl, -⟩, hb1⟩
      go_wp2_with fail
      refine (digits_calls (-1 - n) _ (by omega) (by omega)).mono ?_
      rintro e W2 ⟨⟨v2, rfl, hv2⟩, hb2⟩
      have hB := hb1.trans (hb2.mono hb1.size)
      clear hb1 hb2
      have hx2 := BytesAt.of_own hv2
      obtain ⟨A2, c2, rfl, -⟩ := hx2.form
      generalize dig (-1 - n).toNat = D at *
      have hownE : (W2.alloc (.cells #[.int .u8 (144 + (D.length : Int))] 5)).ownsRow W2.heap.size 5 1 (.slice (some ⟨W2.heap.size, 0, none⟩) 1 1) 1 [.int .u8 (144 + (D.length : Int))] := World.ownsRow_lit W2 #[.int .u8 (144 + (D.length : Int))] 1 (Nat.le_refl _) (by unfold maxLen; omega) rfl
      have hl2 := Sl.below hx2 ((Below.refl W2.heap.size W2).alloc (Nat.le_refl _) (.cells #[.int .u8 (144 + (D.length : Int))] 5))
      have HV := Lib.hid (show bytesV (numC n) = [.int .u8 (144 + (D.length : Int))] ++ bytesV D by
        rw [HNC.out]
        simp only [bytesV, List.map_cons, List.cons_append, List.nil_append]
        rw [← byte_of (n := 144 + (D.length : Int)) (by omega) (by omega)])
      have HN := Lib.hid (show (numC n).length = 1 + D.length by rw [HNC.out, List.length_cons, Nat.add_comm])
      clear hv2 hx2 HNC
      go_wp2_with (at_builtin
                   refine wpList_append_sl _ rfl (.tmp 28) (.tmp 29) _ rfl W2.heap.size 5 i0 _ 1 1 Tryz.underlying39 hi0 hz0 hz1 hz2 rfl (by omega) (.slice (some ⟨W2.heap.size, 0, none⟩) 1 1) 1 _ rfl hownE W1.heap.size W2.heap.size _ D.length (bytesV D) rfl hl2 (bytesV_one D) (by unfold maxLen; omega) (by omega) (by simp) ?_
                   intro v5 w5 hv5 hg5 hat5)
      have hB4 : Below W2.heap.size W2 w5 := ((Below.refl _ W2).alloc (Nat.le_refl _) (.cells #[.int .u8 (144 + (D.length : Int))] 5)).grown hg5 (by simp) (fun g hg => by cases hg; exact Nat.le_refl _)
      clear hg5 hat5 hownE hl2
      have hx5 : w5.ownsRow w.heap.size 5 1 v5 (numC n).length (bytesV (numC n)) := by
        rw [← HV.out, ← HN.out] at hv5
        exact rowWide hv5 hB.size
      obtain ⟨A5, c5, rfl, -⟩ := (BytesAt.of_own hx5).form
      go_wp2
      go_ret
      exact ⟨⟨_, rfl, hx5⟩, hB.trans (hB4.mono hB.size)⟩
    · have hn2 : 128 ≤ n := by omega
      have hd1 : decide (n ≥ 0) = true := by simp; omega
      have hd2 : decide (n < 128) = false := by simp; omega
      have hd3 : decide (n < 0) = false := by simp; omega
      have HNC := Lib.hid (numC_big hn2)
      have h8 := dig_len8 n.toNat
      go_enter Tryz.func98, Tryz.ntmps98
      go_wp2_with fail
      refine (digits_calls n _ (by omega) (by omega)).mono ?_
      rintro e W2 ⟨⟨v2, rfl, hv2⟩, hB⟩
      have hx2 := BytesAt.of_own hv2
      obtain ⟨A2, c2, rfl, -⟩ := hx2.form
      generalize dig (n).toNat = D at *
      have hownE : (W2.alloc (.cells #[.int .u8 (128 + (D.length : Int))] 5)).ownsRow W2.heap.size 5 1 (.slice (some ⟨W2.heap.size, 0, none⟩) 1 1) 1 [.int .u8 (128 + (D.length : Int))] := World.ownsRow_lit W2 #[.int .u8 (128 + (D.length : Int))] 1 (Nat.le_refl _) (by unfold maxLen; omega) rfl
      have hl2 := Sl.below hx2 ((Below.refl W2.heap.size W2).alloc (Nat.le_refl _) (.cells #[.int .u8 (128 + (D.length : Int))] 5))
      have HV := Lib.hid (show bytesV (numC n) = [.int .u8 (128 + (D.length : Int))] ++ bytesV D by
        rw [HNC.out]
        simp only [bytesV, List.map_cons, List.cons_append, List.nil_append]
        rw [← byte_of (n := 128 + (D.length : Int)) (by omega) (by omega)])
      have HN := Lib.hid (show (numC n).length = 1 + D.length by rw [HNC.out, List.length_cons, Nat.add_comm])
      clear hv2 hx2 HNC
      go_wp2_with (at_builtin
                   refine wpList_append_sl _ rfl (.tmp 28) (.tmp 29) _ rfl W2.heap.size 5 i0 _ 1 1 Tryz.underlying39 hi0 hz0 hz1 hz2 rfl (by omega) (.slice (some ⟨W2.heap.size, 0, none⟩) 1 1) 1 _ rfl hownE w.heap.size W2.heap.size _ D.length (bytesV D) rfl hl2 (bytesV_one D) (by unfold maxLen; omega) (by omega) (by simp) ?_
                   intro v5 w5 hv5 hg5 hat5)
      have hB4 : Below W2.heap.size W2 w5 := ((Below.refl _ W2).alloc (Nat.le_refl _) (.cells #[.int .u8 (128 + (D.length : Int))] 5)).grown hg5 (by simp) (fun g hg => by cases hg; exact Nat.le_refl _)
      clear hg5 hat5 hownE hl2
      have hx5 : w5.ownsRow w.heap.size 5 1 v5 (numC n).length (bytesV (numC n)) := by
        rw [← HV.out, ← HN.out] at hv5
        exact rowWide hv5 hB.size
      obtain ⟨A5, c5, rfl, -⟩ := (BytesAt.of_own hx5).form
      go_wp2
      go_ret
      exact ⟨⟨_, rfl, hx5⟩, hB.trans (hB4.mono hB.size)⟩
theorem refnum_calls (n : Int) (w : World) (h0 : -9223372036854775808 ≤ n) (h1 : n ≤ 9223372036854775807) :
    Calls Tryz.prog 98 #[.int .i64 n] w fun e w' => (∃ v, e = .returned v ∧ BytesAt w' w.heap.size w'.heap.size v (numC n)) ∧ Below w.heap.size w w' :=
  (refnum_own n w h0 h1).mono fun _ _ ⟨⟨v, e, h⟩, hB⟩ => ⟨⟨v, e, BytesAt.of_own h⟩, hB⟩
end Ce
end Go.Proofs.YthfpfomifebpbaaGreat

namespace Go.Proofs.YthfpfomifebpbaaGreat
open Go.RowKit
namespace Ce

theorem run_string_at {P : Program} {w : World} {src dst e : TypeId} (hs : P.underlying src = some (.slice e)) (he : P.underlying e = some (.int .u8)) (hd : P.underlying dst = some .string) {lo B n c : Nat} {A : Option Addr} {l : List UInt8}
    (h : BytesAt w lo B (.slice A n c) l) : (convert src dst (.slice A n c)).run P w = .ok (.string ⟨l.toArray⟩) w := by
  obtain ⟨A', c', e', h1, h2, h3⟩ := h.at_
  have hl : n = l.length := by cases e'; rfl
  cases e'
  match l, hl with
  | [], _ =>
    rw [run_convert_bytes_string w src dst e A _ c hs he hd]
    cases A <;> simp [Conv.bytesToString] <;> rfl
  | x :: r, _ =>
    obtain ⟨b, o, rfl, _, _, hc⟩ := h3 (by simp)
    refine run_convert_bytes_back w src dst e ⟨b, o, none⟩ c (x :: r) hs he hd fun j hj => ?_
    have e1 : (⟨b, o, none⟩ : Addr).add j = ⟨b, o + j, none⟩ := by unfold Addr.add; split <;> simp_all
    rw [e1, hc j (by omega)]
    unfold bytesV
    rw [List.getElem?_map, List.getElem?_eq_getElem hj]
    rfl
theorem or_byte {u : Nat} {c : UInt8} (hu : u < 72057594037927936) : bits .or .u64 ((u : Int) * 256) (c.toNat : Int) = ((u * 256 + c.toNat : Nat) : Int) := by
  have hc := c.toNat_lt
  have e : (u : Int) * 256 = ((u * 256 : Nat) : Int) := by omega
  rw [e, bits_or_u64_nat _ _ (by omega) (by omega)]
  congr 1
  have := Nat.two_pow_add_eq_or_of_lt (i := 8) (b := c.toNat) (by omega) u
  rw [show (2 : Nat) ^ 8 = 256 by rfl] at this
  rw [Nat.mul_comm u 256]
  exact this.symm

theorem BytesAt.upTo {w : World} {lo B n k c : Nat} {A : Option Addr} {l : List UInt8} (h : BytesAt w lo B (.slice A n c) l) (hk : k ≤ l.length) : BytesAt w lo B (.slice A k c) (l.take k) := by
  have hn : n = l.length := by
    obtain ⟨A', c', e, _⟩ := h.at_
    cases e; rfl
  subst hn
  have := Sl.upTo (k := k) h hk
  unfold BytesAt
  have e : (l.take k).length = k := by rw [List.length_take]; omega
  rw [e, show bytesV (l.take k) = (bytesV l).take (k * 1) by simp [bytesV, List.map_take]]
  exact this
def firstR (b : List UInt8) : Int × Int × Int := match firstC b with | some (n, k) => (n, (k : Int), 0) | none => (0, 0, 10)

set_option maxRecDepth 100000 in
set_option maxHeartbeats 8000000 in
theorem first_calls (b : List UInt8) (v : Value) (w : World) (hI : BytesAt w 0 w.heap.size v b) :
    Calls Tryz.prog 93 #[v] w fun e w' => e = .returned (.tuple #[.int .i64 (firstR b).1, .int .i64 (firstR b).2.1, .int .i64 (firstR b).2.2]) ∧ Below w.heap.size w w' := by
  obtain ⟨A, c, rfl, hc1, hc2⟩ := hI.form
  unfold maxLen at hc2
  match b with
  | [] =>
    have hR : firstR [] = (0, 0, 10) := rfl
    rw [hR]
    clear hR
    simp only [List.length_nil]
    go_enter Tryz.func93, Tryz.ntmps93
    go_wp2
    go_ret3
    exact ⟨rfl, Below.refl _ _⟩
  | h :: t =>
    have hlen : (h :: t).length = t.length + 1 := by simp
    obtain ⟨p, o, rfl, -, hp, g0⟩ := hI.cellAt (j := 0) (by simp)
    have hg : ∀ j (hj : j < t.length), w.cell? ⟨p, o + 1 + j, none⟩ = some (.int .u8 ((t[j]).toNat : Int)) := fun j hj => by
      obtain ⟨p', o', e, -, -, g1⟩ := hI.cellAt (j := j + 1) (by simp; omega)
      cases e
      rw [List.getElem_cons_succ] at g1
      rw [← g1]
      congr 2
      omega
    have HG := Lib.hid hg
    clear hg
    simp only [List.getElem_cons_zero, Nat.add_zero] at g0
    rw [hlen] at hI hc1 ⊢
    clear hlen
    have hlz : (((t.length + 1 : Nat) : Int) == 0) = false := by simp; omega
    have hl1 : 0 < t.length + 1 := by omega
    have hh := h.toNat_lt
    by_cases h1 : h.toNat < 128
    · have HR := Lib.hid (show firstR (h :: t) = ((h.toNat : Int), 1, 0) by unfold firstR; rw [firstC_cons, if_pos h1]; rfl)
      have hd : decide ((h.toNat : Int) < 128) = true := by simp; omega
      clear h1
      go_enter Tryz.func93, Tryz.ntmps93
      go_wp2
      go_ret3
      rw [HR.out]
      exact ⟨rfl, Below.refl _ _⟩
    · have hd : decide ((h.toNat : Int) < 128) = false := by simp; omega
      by_cases h2 : 144 ≤ h.toNat
      · have hd2 : decide ((h.toNat : Int) ≥ 144) = true := by simp; omega
        obtain ⟨sz, hsz⟩ : ∃ sz : Nat, (h.toNat : Int) - 144 = (sz : Int) := ⟨h.toNat - 144, by omega⟩
        have hS : sizeOf_ h = sz := by unfold sizeOf_; rw [if_pos h2]; omega
        have hV : valOf h (t.take sz) = toI (flip (be (t.take sz))) := by unfold valOf; rw [if_pos h2]
        clear h2
        by_cases hbig : 8 < sz ∨ t.length < sz
        · have HR := Lib.hid (show firstR (h :: t) = (0, 0, 10) by unfold firstR; rw [firstC_cons, if_neg h1, hS, if_pos hbig])
          clear h1 hS hV
          have hcs : decide ((sz : Int) > 8) = true ∨ (decide ((sz : Int) > 8) = false ∧ decide ((sz : Int) ≥ (t.length : Int) + 1) = true) := by
            by_cases h8 : 8 < sz
            · exact .inl (by simp; omega)
            · exact .inr ⟨by simp; omega, by simp; omega⟩
          clear hbig
          rcases hcs with h3 | ⟨h3, h4⟩
          all_goals
            go_enter Tryz.func93, Tryz.ntmps93
            go_wp2
            go_ret3
            rw [HR.out]
            exact ⟨rfl, Below.refl _ _⟩
        · have h8 : sz ≤ 8 := by omega
          have hst : sz ≤ t.length := by omega
          have HR := Lib.hid (show firstR (h :: t) = if numC (toI (flip (be (t.take sz)))) = h :: t.take sz then (toI (flip (be (t.take sz))), ((1 + sz : Nat) : Int), 0) else (0, 0, 10) by
            unfold firstR; rw [firstC_cons, if_neg h1, hS, if_neg hbig, hV]
            by_cases hq : numC (toI (flip (be (t.take sz)))) = h :: t.take sz
            · rw [if_pos hq, if_pos hq]
            · rw [if_neg hq, if_neg hq])
          clear h1 hS hV hbig
          have hdb : decide ((sz : Int) > 8) = false := by simp; omega
          have hdc : decide ((sz : Int) ≥ (t.length : Int) + 1) = false := by simp; omega
          have k1 : (1 : Int) ≤ 1 + (sz : Int) := by omega
          have k2 : 1 + (sz : Int) ≤ (c : Int) := by omega
          by_cases hcc : c = 1
          all_goals
            go_enter Tryz.func93, Tryz.ntmps93
            go_wp2
            go_loop [8, 10, 41] (fun u _ i => ∃ j : Nat, j ≤ sz ∧ i = .int .i64 j ∧ u = .int .u64 (be (t.take j))) (fun _ _ i => sz - (intOf i).toNat)
            case atStart => exact ⟨0, by omega, rfl, rfl⟩
            case round =>
              obtain ⟨j, hj, rfl, rfl⟩ := hrel
              by_cases hjs : j < sz
              · have hcell := HG.out j (by omega)
                have hbl := be_lt _ (t.take j) rfl
                have hlj : (t.take j).length = j := by rw [List.length_take]; omega
                rw [hlj] at hbl
                have hpow : 256 ^ j ≤ 256 ^ 7 := Nat.pow_le_pow_right (by omega) (by omega)
                have hub : be (t.take j) < 72057594037927936 := Nat.lt_of_lt_of_le hbl hpow
                clear hpow hbl hlj
                have hor := or_byte (c := t[j]) hub
                have hqq : (t[j]).toNat < 256 := (t[j]).toNat_lt
                have HS := Lib.hid (show be (t.take (j + 1)) = be (t.take j) * 256 + (t[j]).toNat by rw [List.take_succ_eq_append_getElem (by omega), be_snoc])
                generalize be (t.take j) = u at *
                have hu0 : (0 : Int) ≤ (u : Int) := by omega
                have hu1 : (u : Int) < 72057594037927936 := by omega
                clear hub
                first
                | (exfalso; omega)
                | (generalize (t[j]).toNat = q at *
                   have hq0 : (0 : Int) ≤ (q : Int) := by omega
                   have hq1 : (q : Int) < 256 := by omega
                   go_wp2
                   go_round
                   case rel => exact ⟨j + 1, by omega, by go_num, by rw [HS.out, Int.natCast_add, Int.natCast_mul]; rfl⟩
                   case measure => simp [intOf]; omega)
              · obtain rfl : j = sz := by omega
                have hub := be_take_lt t h8
                have hx : bits .xor .u64 ((be (t.take j) : Nat) : Int) 18446744073709551615 = ((flip (be (t.take j)) : Nat) : Int) := by
                  have := bits_xor_u64_nat (be (t.take j)) 18446744073709551615 hub (by omega)
                  rw [Nat.xor_comm, show (18446744073709551615 : Nat) = 2 ^ 64 - 1 by rfl, Lib.xor_ones64 _ (by omega)] at this
                  exact this
                have hfl : flip (be (t.take j)) < 18446744073709551616 := by unfold flip; omega
                generalize flip (be (t.take j)) = U at *
                have hdj : decide ((j : Int) < (j : Int)) = false := by simp
                clear HG
                have hN := toI_range hfl
                have hpre := fun (W : World) (hW : Below w.heap.size w W) => (hI.mono hW hW.size).upTo (k := 1 + j) (by simp; omega)
                have htk : (h :: t).take (1 + j) = h :: t.take j := by rw [Nat.add_comm, List.take_succ_cons]
                rw [htk] at hpre
                have HPRE := Lib.hid hpre
                clear hpre htk
                have hw64 : wrap64 (U : Int) = toI U := by unfold wrap64 toI; split <;> omega
                have HW := Lib.hid hw64
                clear hw64
                go_wp2_with fail
                rw [HW.out]
                clear HW hx hfl
                generalize toI U = N at *
                obtain ⟨m, hm⟩ : ∃ m : Nat, m = 1 + j := ⟨_, rfl⟩
                have hsum : IntKind.i64.wrap (1 + (j : Int)) = (m : Int) := (IntWalk.i64_in _ (by omega)).trans (by omega)
                have k3 : (0 : Int) ≤ (m : Int) := by omega
                have k4 : (m : Int) ≤ (c : Int) := by omega
                have k5 : (m : Int) ≤ ((t.length + 1 : Nat) : Int) := by omega
                have k6 : ((t.length + 1 : Nat) : Int) ≤ (c : Int) := by omega
                try rw [hcc] at k4 k6
                have HM1 := Lib.hid hm
                rw [← hm] at HPRE
                clear hm
                have hdrew : Below w.heap.size w w.drew := (Below.refl _ w).drew
                have hc0 : (convert 39 9 (.slice (some ⟨p, o, none⟩) m c)).run Tryz.prog w.drew = .ok (.string ⟨(h :: t.take j).toArray⟩) w.drew := run_string_at Tryz.underlying39 Tryz.underlying5 Tryz.underlying9 (HPRE.out _ hdrew)
                try rw [hcc] at hc0
                by_cases hq : numC N = h :: t.take j
                · have HR2 := Lib.hid (show firstR (h :: t) = (N, ((1 + j : Nat) : Int), 0) by rw [HR.out, if_pos hq])
                  have hlq : (h :: t.take j).length = j + 1 := by rw [List.length_cons, List.length_take]; omega
                  go_region_with (go_at_call 90; refine (num_calls N _ hN.1 hN.2).mono ?_; rintro e W1 ⟨⟨v1, rfl, hv1⟩, hb1⟩; (rw [hq] at hv1); obtain ⟨A1, c1, rfl, -⟩ := hv1.form; (rw [hlq] at hv1); have hB1 := hdrew.trans (hb1.mono hdrew.size); have hc1' := run_string_at (dst := 9) Tryz.underlying39 Tryz.underlying5 Tryz.underlying9 hv1; have hc2' := run_string_at (dst := 9) Tryz.underlying39 Tryz.underlying5 Tryz.underlying9 (HPRE.out _ hB1); (try rw [hcc] at hc2'))
                  all_goals
                    clear hsum
                    go_wp2
                    go_ret3
                    rw [HR2.out]
                    exact ⟨rfl, hB1⟩
                · have HR2 := Lib.hid (show firstR (h :: t) = (0, 0, 10) by rw [HR.out, if_neg hq])
                  obtain ⟨s1, hs1⟩ : ∃ s1 : ByteArray, s1 = ⟨(numC N).toArray⟩ := ⟨_, rfl⟩
                  obtain ⟨s2, hs2⟩ : ∃ s2 : ByteArray, s2 = ⟨(h :: t.take j).toArray⟩ := ⟨_, rfl⟩
                  have hne : ¬ s1.toList = s2.toList := by
                    rw [ByteArray.toList_eq, ByteArray.toList_eq, hs1, hs2]
                    exact hq
                  have hnb : (s1.toList == s2.toList) = false := by simpa using hne
                  rw [← hs2] at hc0
                  have HS1 := Lib.hid hs1
                  have HS2 := Lib.hid hs2
                  clear hs1 hs2 hq
                  go_region_with (go_at_call 90; refine (num_calls N _ hN.1 hN.2).mono ?_; rintro e W1 ⟨⟨v1, rfl, hv1⟩, hb1⟩; obtain ⟨A1, c1, rfl, -⟩ := hv1.form; have hB1 := hdrew.trans (hb1.mono hdrew.size); have hc1' := run_string_at (dst := 9) Tryz.underlying39 Tryz.underlying5 Tryz.underlying9 hv1; have hc2' := run_string_at (dst := 9) Tryz.underlying39 Tryz.underlying5 Tryz.underlying9 (HPRE.out _ hB1); (rw [← HS1.out] at hc1'); (rw [← HS2.out] at hc2'); (try rw [hcc] at hc2'))
                  all_goals
                    clear hsum
                    go_wp2
                    go_ret3
                    rw [HR2.out]
                    exact ⟨rfl, hB1⟩
      · have hd2 : decide ((h.toNat : Int) ≥ 144) = false := by simp; omega
        obtain ⟨sz, hsz⟩ : ∃ sz : Nat, (h.toNat : Int) - 128 = (sz : Int) := ⟨h.toNat - 128, by omega⟩
        have hS : sizeOf_ h = sz := by unfold sizeOf_; rw [if_neg h2]; omega
        have hV : valOf h (t.take sz) = toI (be (t.take sz)) := by unfold valOf; rw [if_neg h2]
        clear h2
        by_cases hbig : 8 < sz ∨ t.length < sz
        · have HR := Lib.hid (show firstR (h :: t) = (0, 0, 10) by unfold firstR; rw [firstC_cons, if_neg h1, hS, if_pos hbig])
          clear h1 hS hV
          have hcs : decide ((sz : Int) > 8) = true ∨ (decide ((sz : Int) > 8) = false ∧ decide ((sz : Int) ≥ (t.length : Int) + 1) = true) := by
            by_cases h8 : 8 < sz
            · exact .inl (by simp; omega)
            · exact .inr ⟨by simp; omega, by simp; omega⟩
          clear hbig
          rcases hcs with h3 | ⟨h3, h4⟩
          all_goals
            go_enter Tryz.func93, Tryz.ntmps93
            go_wp2
            go_ret3
            rw [HR.out]
            exact ⟨rfl, Below.refl _ _⟩
        · have h8 : sz ≤ 8 := by omega
          have hst : sz ≤ t.length := by omega
          have HR := Lib.hid (show firstR (h :: t) = if numC (toI (be (t.take sz))) = h :: t.take sz then (toI (be (t.take sz)), ((1 + sz : Nat) : Int), 0) else (0, 0, 10) by
            unfold firstR; rw [firstC_cons, if_neg h1, hS, if_neg hbig, hV]
            by_cases hq : numC (toI (be (t.take sz))) = h :: t.take sz
            · rw [if_pos hq, if_pos hq]
            · rw [if_neg hq, if_neg hq])
          clear h1 hS hV hbig
          have hdb : decide ((sz : Int) > 8) = false := by simp; omega
          have hdc : decide ((sz : Int) ≥ (t.length : Int) + 1) = false := by simp; omega
          have k1 : (1 : Int) ≤ 1 + (sz : Int) := by omega
          have k2 : 1 + (sz : Int) ≤ (c : Int) := by omega
          by_cases hcc : c = 1
          all_goals
            go_enter Tryz.func93, Tryz.ntmps93
            go_wp2
            go_loop [8, 10, 41] (fun u _ i => ∃ j : Nat, j ≤ sz ∧ i = .int .i64 j ∧ u = .int .u64 (be (t.take j))) (fun _ _ i => sz - (intOf i).toNat)
            case atStart => exact ⟨0, by omega, rfl, rfl⟩
            case round =>
              obtain ⟨j, hj, rfl, rfl⟩ := hrel
              by_cases hjs : j < sz
              · have hcell := HG.out j (by omega)
                have hbl := be_lt _ (t.take j) rfl
                have hlj : (t.take j).length = j := by rw [List.length_take]; omega
                rw [hlj] at hbl
                have hpow : 256 ^ j ≤ 256 ^ 7 := Nat.pow_le_pow_right (by omega) (by omega)
                have hub : be (t.take j) < 72057594037927936 := Nat.lt_of_lt_of_le hbl hpow
                clear hpow hbl hlj
                have hor := or_byte (c := t[j]) hub
                have hqq : (t[j]).toNat < 256 := (t[j]).toNat_lt
                have HS := Lib.hid (show be (t.take (j + 1)) = be (t.take j) * 256 + (t[j]).toNat by rw [List.take_succ_eq_append_getElem (by omega), be_snoc])
                generalize be (t.take j) = u at *
                have hu0 : (0 : Int) ≤ (u : Int) := by omega
                have hu1 : (u : Int) < 72057594037927936 := by omega
                clear hub
                first
                | (exfalso; omega)
                | (generalize (t[j]).toNat = q at *
                   have hq0 : (0 : Int) ≤ (q : Int) := by omega
                   have hq1 : (q : Int) < 256 := by omega
                   go_wp2
                   go_round
                   case rel => exact ⟨j + 1, by omega, by go_num, by rw [HS.out, Int.natCast_add, Int.natCast_mul]; rfl⟩
                   case measure => simp [intOf]; omega)
              · obtain rfl : j = sz := by omega
                have hfl := be_take_lt t h8
                have hx : bits .xor .u64 ((be (t.take j) : Nat) : Int) 0 = ((be (t.take j) : Nat) : Int) := by
                  have := bits_xor_u64_nat (be (t.take j)) 0 hfl (by omega)
                  rw [Nat.xor_zero] at this
                  exact this
                generalize be (t.take j) = U at *
                have hdj : decide ((j : Int) < (j : Int)) = false := by simp
                clear HG
                have hN := toI_range hfl
                have hpre := fun (W : World) (hW : Below w.heap.size w W) => (hI.mono hW hW.size).upTo (k := 1 + j) (by simp; omega)
                have htk : (h :: t).take (1 + j) = h :: t.take j := by rw [Nat.add_comm, List.take_succ_cons]
                rw [htk] at hpre
                have HPRE := Lib.hid hpre
                clear hpre htk
                have hw64 : wrap64 (U : Int) = toI U := by unfold wrap64 toI; split <;> omega
                have HW := Lib.hid hw64
                clear hw64
                go_wp2_with fail
                rw [HW.out]
                clear HW hx hfl
                generalize toI U = N at *
                obtain ⟨m, hm⟩ : ∃ m : Nat, m = 1 + j := ⟨_, rfl⟩
                have hsum : IntKind.i64.wrap (1 + (j : Int)) = (m : Int) := (IntWalk.i64_in _ (by omega)).trans (by omega)
                have k3 : (0 : Int) ≤ (m : Int) := by omega
                have k4 : (m : Int) ≤ (c : Int) := by omega
                have k5 : (m : Int) ≤ ((t.length + 1 : Nat) : Int) := by omega
                have k6 : ((t.length + 1 : Nat) : Int) ≤ (c : Int) := by omega
                try rw [hcc] at k4 k6
                have HM1 := Lib.hid hm
                rw [← hm] at HPRE
                clear hm
                have hdrew : Below w.heap.size w w.drew := (Below.refl _ w).drew
                have hc0 : (convert 39 9 (.slice (some ⟨p, o, none⟩) m c)).run Tryz.prog w.drew = .ok (.string ⟨(h :: t.take j).toArray⟩) w.drew := run_string_at Tryz.underlying39 Tryz.underlying5 Tryz.underlying9 (HPRE.out _ hdrew)
                try rw [hcc] at hc0
                by_cases hq : numC N = h :: t.take j
                · have HR2 := Lib.hid (show firstR (h :: t) = (N, ((1 + j : Nat) : Int), 0) by rw [HR.out, if_pos hq])
                  have hlq : (h :: t.take j).length = j + 1 := by rw [List.length_cons, List.length_take]; omega
                  go_region_with (go_at_call 90; refine (num_calls N _ hN.1 hN.2).mono ?_; rintro e W1 ⟨⟨v1, rfl, hv1⟩, hb1⟩; (rw [hq] at hv1); obtain ⟨A1, c1, rfl, -⟩ := hv1.form; (rw [hlq] at hv1); have hB1 := hdrew.trans (hb1.mono hdrew.size); have hc1' := run_string_at (dst := 9) Tryz.underlying39 Tryz.underlying5 Tryz.underlying9 hv1; have hc2' := run_string_at (dst := 9) Tryz.underlying39 Tryz.underlying5 Tryz.underlying9 (HPRE.out _ hB1); (try rw [hcc] at hc2'))
                  all_goals
                    clear hsum
                    go_wp2
                    go_ret3
                    rw [HR2.out]
                    exact ⟨rfl, hB1⟩
                · have HR2 := Lib.hid (show firstR (h :: t) = (0, 0, 10) by rw [HR.out, if_neg hq])
                  obtain ⟨s1, hs1⟩ : ∃ s1 : ByteArray, s1 = ⟨(numC N).toArray⟩ := ⟨_, rfl⟩
                  obtain ⟨s2, hs2⟩ : ∃ s2 : ByteArray, s2 = ⟨(h :: t.take j).toArray⟩ := ⟨_, rfl⟩
                  have hne : ¬ s1.toList = s2.toList := by
                    rw [ByteArray.toList_eq, ByteArray.toList_eq, hs1, hs2]
                    exact hq
                  have hnb : (s1.toList == s2.toList) = false := by simpa using hne
                  rw [← hs2] at hc0
                  have HS1 := Lib.hid hs1
                  have HS2 := Lib.hid hs2
                  clear hs1 hs2 hq
                  go_region_with (go_at_call 90; refine (num_calls N _ hN.1 hN.2).mono ?_; rintro e W1 ⟨⟨v1, rfl, hv1⟩, hb1⟩; obtain ⟨A1, c1, rfl, -⟩ := hv1.form; have hB1 := hdrew.trans (hb1.mono hdrew.size); have hc1' := run_string_at (dst := 9) Tryz.underlying39 Tryz.underlying5 Tryz.underlying9 hv1; have hc2' := run_string_at (dst := 9) Tryz.underlying39 Tryz.underlying5 Tryz.underlying9 (HPRE.out _ hB1); (rw [← HS1.out] at hc1'); (rw [← HS2.out] at hc2'); (try rw [hcc] at hc2'))
                  all_goals
                    clear hsum
                    go_wp2
                    go_ret3
                    rw [HR2.out]
                    exact ⟨rfl, hB1⟩
end Ce
end Go.Proofs.YthfpfomifebpbaaGreat
