/-
  sector: the document's device in memory.
  sector: the document's device: Off, Stop, Write.
  sector: the document's device: Flush.
  append(b, make([]byte, m)...) onto a row of the call's own.
  the document's log: Head.
  the document's log: head.
  the document's log: stream.
  the document's log: entries.
  the log, the walk: Compact.
  the document's log: its log in memory; size; bytes.
-/
import Derived.Test.YteiniahikhiadaaWn2
import Derived.Test.YteiniahikhiadaaWn3
import Derived.Test.YteiniahikhiadaaWn4
import Derived.Lib.AppendZerosOnto
import Derived.Test.YteiniahikhiadaaWn6
import Derived.Test.YteiniahikhiadaaWr1

set_option linter.unusedVariables false
set_option linter.unusedSimpArgs false
namespace Go.Proofs.Yteiniahikhiadaa
open Go.RowKit Go.Maps
namespace Se
open Ce
theorem size_cell (w : World) (a : Addr) (v : Value) : (w.setCell a v).heap.size = w.heap.size := by simp
/-- one byte of a sector -/
theorem SureAt.byte {w : World} {sb : Nat} {bs : List Blk} (h : SureAt w sb bs) (hbs : ∀ c ∈ bs, c.length = 64) {i j : Nat} (hi : i < bs.length) (hj : j < 64) (c : UInt8) : SureAt (w.setCell ⟨sb, i * 64 + j, none⟩ (.int .u8 (c.toNat : Int))) sb (bs.set i ((bs.getD i []).set j c)) := by
  have h64 := hbs _ (List.getElem_mem hi)
  have eg : bs.getD i [] = bs[i] := by rw [List.getD_eq_getElem?_getD, List.getElem?_eq_getElem hi]; rfl
  have e1 : w.setCell ⟨sb, i * 64 + j, none⟩ (.int .u8 (c.toNat : Int)) = w.setCells sb (i * 64 + j) [.int .u8 (c.toNat : Int)] := rfl
  rw [e1]
  refine ⟨fun k hk => ?_, by rw [List.length_set]; exact World.there_setCells h.there _ _ _, by rw [size_cells]; exact h.lt⟩
  rw [List.length_set] at hk
  by_cases e : i = k
  · subst e
    rw [List.getElem_set_self, eg]
    intro m v hv
    by_cases hm : m = j
    · subst hm
      have hv2 : v = .int .u8 (c.toNat : Int) := by
        unfold bytesV at hv
        rw [List.getElem?_map, List.getElem?_set_self (by omega)] at hv
        exact (Option.some.inj hv).symm
      subst hv2
      have := World.rangeAt_setCells_same w sb (i * 64 + m) [.int .u8 (c.toNat : Int)] (there_part h.there (by simp; omega)) 0 _ rfl
      simpa using this
    · have h2 : (bytesV bs[i])[m]? = some v := by
        unfold bytesV at hv ⊢
        rw [List.getElem?_map, List.getElem?_set_ne (Ne.symm hm)] at hv
        rw [List.getElem?_map]
        exact hv
      rw [World.cell?_setCells_out sb _ _ w ⟨sb, i * 64 + m, none⟩ (fun _ _ => by
        rcases Nat.lt_or_ge m j with h3 | h3
        · left; show i * 64 + m < i * 64 + j; omega
        · right; show i * 64 + j + 1 ≤ i * 64 + m; omega)]
      exact h.at_ i hi m v h2
  · rw [List.getElem_set_ne e]
    have hl2 : (bytesV bs[k]).length = 64 := by rw [bytesV_length]; exact hbs _ (List.getElem_mem hk)
    exact World.rangeAt_setCells_apart (h.at_ k hk) _ _ _ (by simp; omega)
def revC (R : Rv) (sb lb tb : Nat) : Array Value := #[.slice (some ⟨sb, 0, none⟩) R.sure.length R.sure.length, .slice (some ⟨lb, 0, none⟩) R.sure.length R.sure.length, .slice (some ⟨tb, 0, none⟩) R.sure.length R.sure.length, .bool R.stops, .int .i64 R.left, .int .i64 R.wr, .int .i64 R.fl]
def boolC (l : List Bool) : Array Value := (l.map Value.bool).toArray
theorem boolC_get {l : List Bool} {i : Nat} (hi : i < l.length) : (boolC l)[i]? = some (.bool (l.getD i false)) := by
  unfold boolC
  rw [List.getElem?_toArray, List.getElem?_map, List.getElem?_eq_getElem hi, List.getD_eq_getElem?_getD, List.getElem?_eq_getElem hi]
  rfl
theorem boolC_set (l : List Bool) (i : Nat) (x : Bool) : (boolC l).setIfInBounds i (.bool x) = boolC (l.set i x) := by
  unfold boolC
  rw [List.setIfInBounds_toArray, List.map_set]
/-- the document's device: its struct x, sure sectors, last ones, dirty marks -/
structure RvAt (w : World) (base x sb lb tb : Nat) (R : Rv) : Prop where
  ob : Ob w x 98 (revC R sb lb tb)
  sure : SureAt w sb R.sure
  last : SureAt w lb R.last
  dirty : Ob w tb 4 (boolC R.dirty)
  ok : OkR R
  ne : x ≠ sb ∧ x ≠ lb ∧ x ≠ tb ∧ sb ≠ lb ∧ sb ≠ tb ∧ lb ≠ tb
  lo : base ≤ x ∧ base ≤ sb ∧ base ≤ lb ∧ base ≤ tb
  len : 0 < R.sure.length ∧ R.sure.length ≤ 16384
section
variable {w w' : World} {base x sb lb tb : Nat} {R R' : Rv} {Fr : Nat → Prop}
theorem RvAt.kept (h : RvAt w base x sb lb tb R) (hk : Kept Fr w w') (h0 : Fr x) (h1 : Fr sb) (h2 : Fr lb) (h3 : Fr tb) : RvAt w' base x sb lb tb R :=
  ⟨hk.ob h.ob h0, h.sure.kept (hk.block sb h1) hk.size, h.last.kept (hk.block lb h2) hk.size, hk.ob h.dirty h3, h.ok, h.ne, h.lo, h.len⟩
theorem RvAt.same (h : RvAt w base x sb lb tb R) (hb : Below w.heap.size w w') : RvAt w' base x sb lb tb R :=
  h.kept (Kept.of_below hb (Fr := fun i => i < w.heap.size) fun _ hi => hi) h.ob.lt h.sure.lt h.last.lt h.dirty.lt
theorem RvAt.cells (h : RvAt w base x sb lb tb R) : w.cell? ⟨x, 0, none⟩ = some (.slice (some ⟨sb, 0, none⟩) R.sure.length R.sure.length) ∧ w.cell? ⟨x, 1, none⟩ = some (.slice (some ⟨lb, 0, none⟩) R.sure.length R.sure.length) ∧ w.cell? ⟨x, 2, none⟩ = some (.slice (some ⟨tb, 0, none⟩) R.sure.length R.sure.length) ∧
    w.cell? ⟨x, 3, none⟩ = some (.bool R.stops) ∧ w.cell? ⟨x, 4, none⟩ = some (.int .i64 R.left) ∧ w.cell? ⟨x, 5, none⟩ = some (.int .i64 R.wr) ∧ w.cell? ⟨x, 6, none⟩ = some (.int .i64 R.fl) :=
  ⟨h.ob.cell (j := 0) rfl, h.ob.cell (j := 1) rfl, h.ob.cell (j := 2) rfl, h.ob.cell (j := 3) rfl, h.ob.cell (j := 4) rfl, h.ob.cell (j := 5) rfl, h.ob.cell (j := 6) rfl⟩
/-- what a call of the document's may write -/
def Rev (x sb lb tb : Nat) (w w' : World) : Prop := Kept (fun i => i < w.heap.size ∧ i ≠ x ∧ i ≠ sb ∧ i ≠ lb ∧ i ≠ tb) w w'
theorem Rev.refl (w : World) : Rev x sb lb tb w w := Kept.refl _ _
theorem Rev.of (hg : w.grownBy w' (some base)) (h : base = x ∨ base = sb ∨ base = lb ∨ base = tb) : Rev x sb lb tb w w' :=
  Kept.of_grown hg fun i hi => ⟨hi.1, fun e => by have := Option.some.inj e; omega⟩
theorem Rev.trans {w'' : World} (h : Rev x sb lb tb w w') (k : Rev x sb lb tb w' w'') : Rev x sb lb tb w w'' := Kept.trans h (Kept.mono k fun _ hi => ⟨Nat.lt_of_lt_of_le hi.1 (Kept.size h), hi.2⟩)
theorem Rev.drew : Rev x sb lb tb w w.drew := Kept.of_below (Below.refl _ _).drew fun _ hi => hi.1
theorem Rev.below {B : Nat} (h : Rev x sb lb tb w w') (hB : B ≤ w.heap.size) (hd : B ≤ x ∧ B ≤ sb ∧ B ≤ lb ∧ B ≤ tb) : Below B w w' := Kept.below h fun i hi => ⟨by omega, by omega, by omega, by omega, by omega⟩
theorem Rev.size (h : Rev x sb lb tb w w') : w.heap.size ≤ w'.heap.size := Kept.size h
/-- the struct's own block is written -/
theorem RvAt.own (h : RvAt w base x sb lb tb R) (hg : w.grownBy w' (some x)) (ho : Ob w' x 98 (revC R' sb lb tb)) (hs : R'.sure = R.sure) (hl : R'.last = R.last) (hd : R'.dirty = R.dirty) (hok : OkR R') : RvAt w' base x sb lb tb R' := by
  have n1 : some sb ≠ some x := fun e => h.ne.1 (Option.some.inj e).symm
  have n2 : some lb ≠ some x := fun e => h.ne.2.1 (Option.some.inj e).symm
  have n3 : some tb ≠ some x := fun e => h.ne.2.2.1 (Option.some.inj e).symm
  refine ⟨ho, ?_, ?_, ?_, hok, h.ne, h.lo, by rw [hs]; exact h.len⟩
  · rw [hs]; exact h.sure.kept (hg.block sb h.sure.lt n1) hg.size
  · rw [hl]; exact h.last.kept (hg.block lb h.last.lt n2) hg.size
  · rw [hd]; exact h.dirty.kept hg n3
theorem RvAt.setSure (h : RvAt w base x sb lb tb R) {i : Nat} (hi : i < R.sure.length) {b : Blk} (hb : b.length = 64) : RvAt (w.setCells sb (i * 64) (bytesV b)) base x sb lb tb { R with sure := R.sure.set i b } := by
  have hg := grownBy_cells (b := sb) (bytesV b) w (i * 64)
  refine ⟨?_, h.sure.set h.ok.sure hi hb, h.last.kept (hg.block lb h.last.lt (fun e => h.ne.2.2.2.1 (Option.some.inj e).symm)) hg.size, h.dirty.kept hg (fun e => h.ne.2.2.2.2.1 (Option.some.inj e).symm), ⟨set_mem h.ok.sure hb i, h.ok.last, by rw [List.length_set]; exact h.ok.ll, by rw [List.length_set]; exact h.ok.dl, h.ok.left, h.ok.wr, h.ok.fl⟩, h.ne, h.lo, by rw [List.length_set]; exact h.len⟩
  simp only [revC, List.length_set]
  exact h.ob.kept hg (fun e => h.ne.1 (Option.some.inj e))
theorem RvAt.setLast (h : RvAt w base x sb lb tb R) {i : Nat} (hi : i < R.sure.length) {b : Blk} (hb : b.length = 64) : RvAt (w.setCells lb (i * 64) (bytesV b)) base x sb lb tb { R with last := R.last.set i b } := by
  have hg := grownBy_cells (b := lb) (bytesV b) w (i * 64)
  refine ⟨?_, h.sure.kept (hg.block sb h.sure.lt (fun e => h.ne.2.2.2.1 (Option.some.inj e))) hg.size, h.last.set h.ok.last (by rw [h.ok.ll]; exact hi) hb, h.dirty.kept hg (fun e => h.ne.2.2.2.2.2 (Option.some.inj e).symm), ⟨h.ok.sure, set_mem h.ok.last hb i, by rw [List.length_set]; exact h.ok.ll, h.ok.dl, h.ok.left, h.ok.wr, h.ok.fl⟩, h.ne, h.lo, h.len⟩
  simp only [revC]
  exact h.ob.kept hg (fun e => h.ne.2.1 (Option.some.inj e))
theorem RvAt.setDirty (h : RvAt w base x sb lb tb R) (i : Nat) (b : Bool) : RvAt (w.setCell ⟨tb, i, none⟩ (.bool b)) base x sb lb tb { R with dirty := R.dirty.set i b } := by
  have hg := grownBy_set w tb i (.bool b)
  refine ⟨?_, h.sure.kept (hg.block sb h.sure.lt (fun e => h.ne.2.2.2.2.1 (Option.some.inj e))) hg.size, h.last.kept (hg.block lb h.last.lt (fun e => h.ne.2.2.2.2.2 (Option.some.inj e))) hg.size, ?_, ⟨h.ok.sure, h.ok.last, h.ok.ll, by rw [List.length_set]; exact h.ok.dl, h.ok.left, h.ok.wr, h.ok.fl⟩, h.ne, h.lo, h.len⟩
  · simp only [revC]
    exact h.ob.kept hg (fun e => h.ne.2.2.1 (Option.some.inj e))
  · have := h.dirty.set i (.bool b)
    rw [boolC_set] at this
    exact this
theorem RvAt.lastByte (h : RvAt w base x sb lb tb R) {i j : Nat} (hi : i < R.sure.length) (hj : j < 64) (c : UInt8) : RvAt (w.setCell ⟨lb, i * 64 + j, none⟩ (.int .u8 (c.toNat : Int))) base x sb lb tb { R with last := R.last.set i ((R.last.getD i []).set j c) } := by
  have hg := grownBy_set w lb (i * 64 + j) (.int .u8 (c.toNat : Int))
  have hb : ((R.last.getD i []).set j c).length = 64 := by rw [List.length_set]; exact last_len h.ok hi
  refine ⟨?_, h.sure.kept (hg.block sb h.sure.lt (fun e => h.ne.2.2.2.1 (Option.some.inj e))) hg.size, h.last.byte h.ok.last (by rw [h.ok.ll]; exact hi) hj c, h.dirty.kept hg (fun e => h.ne.2.2.2.2.2 (Option.some.inj e).symm), ⟨h.ok.sure, set_mem h.ok.last hb i, by rw [List.length_set]; exact h.ok.ll, h.ok.dl, h.ok.left, h.ok.wr, h.ok.fl⟩, h.ne, h.lo, h.len⟩
  simp only [revC]
  exact h.ob.kept hg (fun e => h.ne.2.1 (Option.some.inj e))
theorem RvAt.sureByte (h : RvAt w base x sb lb tb R) {i j : Nat} (hi : i < R.sure.length) (hj : j < 64) (c : UInt8) : RvAt (w.setCell ⟨sb, i * 64 + j, none⟩ (.int .u8 (c.toNat : Int))) base x sb lb tb { R with sure := R.sure.set i ((R.sure.getD i []).set j c) } := by
  have hg := grownBy_set w sb (i * 64 + j) (.int .u8 (c.toNat : Int))
  have hb : ((R.sure.getD i []).set j c).length = 64 := by rw [List.length_set]; exact surer_len h.ok hi
  refine ⟨?_, h.sure.byte h.ok.sure hi hj c, h.last.kept (hg.block lb h.last.lt (fun e => h.ne.2.2.2.1 (Option.some.inj e).symm)) hg.size, h.dirty.kept hg (fun e => h.ne.2.2.2.2.1 (Option.some.inj e).symm), ⟨set_mem h.ok.sure hb i, h.ok.last, by rw [List.length_set]; exact h.ok.ll, by rw [List.length_set]; exact h.ok.dl, h.ok.left, h.ok.wr, h.ok.fl⟩, h.ne, h.lo, by rw [List.length_set]; exact h.len⟩
  simp only [revC, List.length_set]
  exact h.ob.kept hg (fun e => h.ne.1 (Option.some.inj e))
end
theorem bool_info : (Try.prog.info? 4).map (fun i => (i.zero, i.size, i.bytes)) = some (some (.bool false), 1, 1) := by kernel_rfl
end Se
end Go.Proofs.Yteiniahikhiadaa

namespace Go.Proofs.Yteiniahikhiadaa
open Go.RowKit Go.Maps
namespace Se
open Ce
section
variable {w w' : World} {base x sb lb tb : Nat} {R R' : Rv}
theorem roff_calls (h : RvAt w base x sb lb tb R) :
    Calls Try.prog 58 #[.pointer (some ⟨x, 0, none⟩)] w fun e w' => e = .returned (.bool (offR R)) ∧ w = w' := by
  obtain ⟨y0, y1, y2, y3, y4, y5, y6⟩ := h.cells
  have HO := Lib.hid (show offR R = (R.stops && decide (R.left ≤ 0)) from rfl)
  generalize offR R = O at *
  generalize R.stops = S at *
  generalize R.left = L at *
  clear h y0 y1 y2 y5 y6
  go_enter Try.func58, Try.ntmps58
  cases S with
  | true =>
    go_wp2
    go_ret
    exact ⟨by rw [HO.out]; rfl, rfl⟩
  | false =>
    go_wp2
    go_ret
    exact ⟨by rw [HO.out]; rfl, rfl⟩
set_option maxRecDepth 100000 in
theorem rstop_calls (h : RvAt w base x sb lb tb R) (n : Int) (h0 : -9223372036854775808 ≤ n) (h1 : n ≤ 9223372036854775807) :
    Calls Try.prog 34 #[.pointer (some ⟨x, 0, none⟩), .int .i64 n] w fun e w' => e = .returned (.tuple #[]) ∧ RvAt w' base x sb lb tb (stopR R n) ∧ Rev x sb lb tb w w' := by
  obtain ⟨y0, y1, y2, y3, y4, y5, y6⟩ := h.cells
  have hz := h.ob.frozen 3
  have hz2 := h.ob.frozen 4
  have hst := (h.ob.set 3 (.bool (decide (0 ≤ n)))).set 4 (.int .i64 n)
  have hg := (grownBy_set w x 3 (.bool (decide (0 ≤ n)))).trans (grownBy_set _ x 4 (.int .i64 n))
  have hC : ((revC R sb lb tb).setIfInBounds 3 (.bool (decide (0 ≤ n)))).setIfInBounds 4 (.int .i64 n) = revC (stopR R n) sb lb tb := rfl
  rw [hC] at hst
  have HD := Lib.hid (h.own (R' := stopR R n) hg hst rfl rfl rfl ⟨h.ok.sure, h.ok.last, h.ok.ll, h.ok.dl, ⟨h0, h1⟩, h.ok.wr, h.ok.fl⟩)
  have HG := Lib.hid (Rev.of (sb := sb) (lb := lb) (tb := tb) hg (.inl rfl))
  clear h hC hst hg y0 y1 y2 y5 y6
  go_enter Try.func34, Try.ntmps34
  go_wp2
  go_end0
  exact ⟨rfl, HD.out, HG.out⟩
set_option maxRecDepth 100000 in
theorem rwrite_arg (h : RvAt w base x sb lb tb R) (i : Int) (A : Option Addr) (n c : Nat) (hbad : i < 0 ∨ (R.sure.length : Int) ≤ i ∨ n ≠ 64) :
    Calls Try.prog 44 #[.pointer (some ⟨x, 0, none⟩), .int .i64 i, .slice A n c] w fun e w' => e = .returned (.int .i64 1) ∧ w = w' := by
  obtain ⟨y0, y1, y2, y3, y4, y5, y6⟩ := h.cells
  generalize R.sure.length = m at *
  clear h y1 y2 y3 y4 y5 y6
  by_cases h1 : i < 0
  · have hd : decide (i < 0) = true := by simpa using h1
    clear h1 hbad
    go_enter Try.func44, Try.ntmps44
    go_wp2
    go_ret
    exact ⟨rfl, rfl⟩
  · have hd : decide (i < 0) = false := by simpa using h1
    by_cases h2 : (m : Int) ≤ i
    · have hd2 : decide (i ≥ (m : Int)) = true := by simpa using h2
      clear h1 h2 hbad
      go_enter Try.func44, Try.ntmps44
      go_wp2
      go_ret
      exact ⟨rfl, rfl⟩
    · have hd2 : decide (i ≥ (m : Int)) = false := by simpa using h2
      have hd3 : ((n : Int) != 64) = true := by simp; omega
      clear h1 h2 hbad
      go_enter Try.func44, Try.ntmps44
      go_wp2
      go_ret
      exact ⟨rfl, rfl⟩
set_option maxRecDepth 100000 in
theorem rwrite_off (h : RvAt w base x sb lb tb R) (ho : offR R = true) (i : Nat) (A : Option Addr) (c : Nat) (hi : i < R.sure.length) :
    Calls Try.prog 44 #[.pointer (some ⟨x, 0, none⟩), .int .i64 i, .slice A 64 c] w fun e w' => e = .returned (.int .i64 30) ∧ w = w' := by
  have cO := roff_calls h
  rw [ho] at cO
  have CO := Lib.hid cO
  obtain ⟨y0, y1, y2, y3, y4, y5, y6⟩ := h.cells
  generalize R.sure.length = m at *
  clear h y1 y2 y3 y4 y5 y6 cO ho
  have hd : decide ((i : Int) < 0) = false := by simp; try omega
  have hd2 : decide (m ≤ i) = false := by simp; omega
  have hd3 : decide ((i : Int) ≥ (m : Int)) = false := by simp; omega
  go_enter Try.func44, Try.ntmps44
  go_wp2_with fail
  refine CO.out.mono ?_
  rintro e W ⟨rfl, rfl⟩
  go_wp2
  go_ret
  exact ⟨rfl, rfl⟩
theorem bytesV_getD {l : List UInt8} {k : Nat} (hk : k < l.length) : (bytesV l)[k]? = some (.int .u8 ((l.getD k 0).toNat : Int)) := by
  unfold bytesV
  simp [List.getD_eq_getElem?_getD, hk]
/-- some of a sector's bytes -/
def partB (o b : Blk) (k : Nat) : Blk := b.take k ++ o.drop k
theorem partB_len {o b : Blk} (h1 : o.length = 64) (h2 : b.length = 64) {k : Nat} (hk : k ≤ 64) : (partB o b k).length = 64 := by unfold partB; rw [List.length_append, List.length_take, List.length_drop]; omega
theorem partB_zero (o b : Blk) : partB o b 0 = o := by simp [partB]
theorem partB_all {o b : Blk} (h1 : o.length = 64) (h2 : b.length = 64) : partB o b 64 = b := by unfold partB; rw [List.take_of_length_le (by omega), List.drop_eq_nil_of_le (by omega), List.append_nil]
theorem partB_step {o b : Blk} (h1 : o.length = 64) (h2 : b.length = 64) {k : Nat} (hk : k < 64) : (partB o b k).set k (b.getD k 0) = partB o b (k + 1) := by
  unfold partB
  apply List.ext_getElem
  · simp; omega
  · intro j g1 g2
    rw [List.getElem_set]
    by_cases e : k = j
    · subst e
      rw [if_pos rfl, List.getElem_append_left (by simp; omega), List.getElem_take, List.getD_eq_getElem?_getD, List.getElem?_eq_getElem (by omega)]
      rfl
    · rw [if_neg e]
      by_cases hj : j < k
      · rw [List.getElem_append_left (by simp; omega), List.getElem_append_left (by simp; omega)]
        simp
      · rw [List.getElem_append_right (by simp; omega), List.getElem_append_right (by simp; omega)]
        simp only [List.getElem_drop, List.length_take]
        congr 1
        omega
theorem set_getD (l : List Blk) (i : Nat) : l.set i (l.getD i []) = l := by
  apply List.ext_getElem
  · simp
  · intro j g1 g2
    rw [List.getElem_set]
    by_cases e : i = j
    · subst e
      rw [if_pos rfl, List.getD_eq_getElem?_getD, List.getElem?_eq_getElem g2]
      rfl
    · rw [if_neg e]
theorem getD_set_self {l : List Blk} {i : Nat} (hi : i < l.length) (b : Blk) : (l.set i b).getD i [] = b := by
  rw [List.getD_eq_getElem?_getD, List.getElem?_set_self hi]
  rfl
def wK (R : Rv) (i : Nat) (b : Blk) (k : Nat) : Rv := { R with last := R.last.set i (partB (R.last.getD i []) b k) }
theorem wK_step {R : Rv} {i : Nat} {b : Blk} (hok : OkR R) (hi : i < R.sure.length) (hb : b.length = 64) {k : Nat} (hk : k < 64) : ({ wK R i b k with last := (wK R i b k).last.set i (((wK R i b k).last.getD i []).set k (b.getD k 0)) } : Rv) = wK R i b (k + 1) := by
  unfold wK
  dsimp only
  rw [getD_set_self (by rw [hok.ll]; exact hi), partB_step (last_len hok hi) hb hk, List.set_set]
theorem bytes_cell {lo hi : Nat} {v : Value} {bl : List UInt8} (h : BytesAt w lo hi v bl) {A : Option Addr} {n c : Nat} (he : v = .slice A n c) (hl : bl.length = 64) : ∃ b o, A = some ⟨b, o, none⟩ ∧ n = 64 ∧ lo ≤ b ∧ b < hi ∧ ∀ V : World, BytesAt V lo hi v bl → ∀ k, k < 64 → V.cell? ⟨b, o + k, none⟩ = some (.int .u8 ((bl.getD k 0).toNat : Int)) := by
  subst he
  obtain ⟨A', c', e, -⟩ := h.form
  cases e
  obtain ⟨b, o, rfl, h1, h2, -⟩ := h.cellAt (j := 0) (by omega)
  refine ⟨b, o, rfl, hl, h1, h2, fun V hV k hk => ?_⟩
  obtain ⟨b', o', e, -, -, hc⟩ := hV.cellAt (j := k) (by omega)
  cases e
  rw [hc, List.getD_eq_getElem?_getD, List.getElem?_eq_getElem (by omega)]
  rfl
theorem Rev.bytes {lo hi : Nat} {v : Value} {bl : List UInt8} (h : Rev x sb lb tb w w') (hI : BytesAt w lo hi v bl) (hhi : hi ≤ w.heap.size) (hd : ∀ k, lo ≤ k → k < hi → k ≠ x ∧ k ≠ sb ∧ k ≠ lb ∧ k ≠ tb) : BytesAt w' lo hi v bl :=
  Kept.sl h hI fun i h1 h2 => ⟨by omega, hd i h1 h2⟩
set_option maxRecDepth 100000 in
set_option maxHeartbeats 8000000 in
theorem rwrite_good (h : RvAt w base x sb lb tb R) (ho : offR R = false) (i : Nat) (bl : List UInt8) (v : Value) (lo hi : Nat) (hI : BytesAt w lo hi v bl) (hhi : hi ≤ w.heap.size) (hdj : ∀ k, lo ≤ k → k < hi → k ≠ x ∧ k ≠ sb ∧ k ≠ lb ∧ k ≠ tb) (hi1 : i < R.sure.length) (hbl : bl.length = 64) :
    Calls Try.prog 44 #[.pointer (some ⟨x, 0, none⟩), .int .i64 i, v] w fun e w' => e = .returned (.int .i64 0) ∧ RvAt w' base x sb lb tb { R with left := wrap64 (R.left - 1), last := R.last.set i bl, dirty := R.dirty.set i true, wr := wrap64 (R.wr + 1) } ∧ Rev x sb lb tb w w' := by
  have cO := roff_calls h
  rw [ho] at cO
  have CO := Lib.hid cO
  obtain ⟨y0, y1, y2, y3, y4, y5, y6⟩ := h.cells
  obtain ⟨A, c, rfl, -⟩ := hI.form
  obtain ⟨bb, oo, rfl, hn64, hb1, hb2, hbc⟩ := bytes_cell hI rfl hbl
  rw [hbl]
  rw [hbl] at hI hbc
  have HBC := Lib.hid hbc
  have hlen := h.len.2
  have hst := h.ob.set 4 (.int .i64 (wrap64 (R.left - 1)))
  have hg := grownBy_set w x 4 (.int .i64 (wrap64 (R.left - 1)))
  have hz4 := h.ob.frozen 4
  obtain ⟨R1, hR1⟩ : ∃ R1 : Rv, R1 = { R with left := wrap64 (R.left - 1) } := ⟨_, rfl⟩
  have hC : (revC R sb lb tb).setIfInBounds 4 (.int .i64 (wrap64 (R.left - 1))) = revC R1 sb lb tb := by rw [hR1]; rfl
  rw [hC] at hst
  have hok1 : OkR R1 := by rw [hR1]; exact ⟨h.ok.sure, h.ok.last, h.ok.ll, h.ok.dl, wrap64_bd _, h.ok.wr, h.ok.fl⟩
  have H1 := Lib.hid (h.own (R' := R1) hg hst (by rw [hR1]) (by rw [hR1]) (by rw [hR1]) hok1)
  have HV1 := Lib.hid (Rev.of (sb := sb) (lb := lb) (tb := tb) hg (.inl rfl))
  have HI := Lib.hid hI
  have hm1 : R1.sure.length = R.sure.length := by rw [hR1]
  have HFIN := Lib.hid (show ∀ l d : _, ({ R1 with last := l, dirty := d, wr := wrap64 (R1.wr + 1) } : Rv) = { R with left := wrap64 (R.left - 1), last := l, dirty := d, wr := wrap64 (R.wr + 1) } from fun l d => by rw [hR1])
  have HRL := Lib.hid (show R1.last = R.last ∧ R1.dirty = R.dirty by rw [hR1]; exact ⟨rfl, rfl⟩)
  have HBL := Lib.hid hbl
  generalize hm : R.sure.length = m at *
  generalize R.left = L at *
  have HM1 := Lib.hid hm1
  have HOK1 := Lib.hid hok1
  clear h hI hbc hst hg hC hR1 cO ho hok1 hm1 hbl hm y1 y2 y3 y5 y6 hn64
  have hd : decide ((i : Int) < 0) = false := by simp; try omega
  have hd2 : decide (m ≤ i) = false := by simp; omega
  have hd3 : decide ((i : Int) ≥ (m : Int)) = false := by simp; omega
  go_enter Try.func44, Try.ntmps44
  go_wp2_with fail
  refine CO.out.mono ?_
  rintro e W ⟨rfl, rfl⟩
  go_wp2_with fail
  clear hd hd2 hd3 y0 y4 hz4
  go_loopw [7] (fun q wr => ∃ k : Nat, k ≤ 64 ∧ q = .int .i64 k ∧ RvAt wr base x sb lb tb (wK R1 i bl k) ∧ Rev x sb lb tb w wr) (fun q _ => 64 - (intOf q).toNat)
  case atStart => exact ⟨0, by omega, rfl, by unfold wK; rw [partB_zero, set_getD]; exact H1.out, HV1.out⟩
  case round =>
    obtain ⟨k, hk, rfl, hW, hV⟩ := hrel
    clear H1 HV1
    have HW := Lib.hid hW
    have HV := Lib.hid hV
    have hIr := Rev.bytes hV HI.out hhi hdj
    have hmk : (wK R1 i bl k).sure.length = m := HM1.out
    have hO := hW.ob
    unfold revC at hO
    rw [hmk] at hO
    by_cases hlt : k < 64
    · have hd : decide ((k : Int) < 64) = true := by simp; omega
      have hq1 : i < (wK R1 i bl k).last.length := by rw [hW.ok.ll, hmk]; exact hi1
      have hbk : ((wK R1 i bl k).last.getD i []).length = 64 := last_len hW.ok (by rw [hmk]; exact hi1)
      have hcell := hW.last.at_ i hq1 k (.int .u8 ((((wK R1 i bl k).last.getD i []).getD k 0).toNat : Int)) (by
        have e1 : (wK R1 i bl k).last[i] = (wK R1 i bl k).last.getD i [] := by rw [List.getD_eq_getElem?_getD, List.getElem?_eq_getElem hq1]; rfl
        rw [e1]
        exact bytesV_getD (by omega))
      have hfz := (hW.last.there (i * 64 + k) (by omega)).2
      rw [Nat.zero_add] at hfz
      have HST := Lib.hid (RvAt.lastByte (w := wr.drew) (hW.same (Below.refl _ _).drew) (i := i) (j := k) (by rw [hmk]; exact hi1) hlt (bl.getD k 0))
      rw [wK_step HOK1.out (by rw [HM1.out]; exact hi1) HBL.out hlt] at HST
      have HVS := Lib.hid ((hV.trans Rev.drew).trans (Rev.of (sb := sb) (lb := lb) (tb := tb) (grownBy_set wr.drew lb (i * 64 + k) (.int .u8 ((bl.getD k 0).toNat : Int))) (.inr (.inr (.inl rfl)))))
      have hOd : Ob wr.drew x 98 #[.slice (some ⟨sb, 0, none⟩) m m, .slice (some ⟨lb, 0, none⟩) m m, .slice (some ⟨tb, 0, none⟩) m m, .bool (wK R1 i bl k).stops, .int .i64 (wK R1 i bl k).left, .int .i64 (wK R1 i bl k).wr, .int .i64 (wK R1 i bl k).fl] := hO
      have hId := hIr.below (Below.refl hi wr).drew
      have hcd : wr.drew.cell? ⟨lb, i * 64 + k, none⟩ = _ := hcell
      have hfd : wr.drew.frozen? ⟨lb, i * 64 + k, none⟩ = false := hfz
      generalize (wK R1 i bl k).stops = S at *
      generalize (wK R1 i bl k).left = L2 at *
      generalize (wK R1 i bl k).wr = N1 at *
      generalize (wK R1 i bl k).fl = N2 at *
      generalize (((wK R1 i bl k).last.getD i []).getD k 0) = old at *
      have HBCk := Lib.hid (fun V (hV : BytesAt V lo hi (.slice (some ⟨bb, oo, none⟩) 64 c) bl) => HBC.out V hV k hlt)
      have hgl := grownBy_set wr.drew lb (i * 64 + k) (.int .u8 ((bl.getD k 0).toNat : Int))
      have hOe := hOd.kept hgl (fun e => hW.ne.2.1 (Option.some.inj e))
      have hIe : BytesAt _ lo hi (.slice (some ⟨bb, oo, none⟩) 64 c) bl := Sl.grown hId hgl (Nat.le_trans hhi hV.size) (fun j e => by
        have e2 : lb = j := Option.some.inj e
        subst e2
        rcases Nat.lt_or_ge lb lo with h1 | h1
        · exact .inl h1
        · rcases Nat.lt_or_ge lb hi with h2 | h2
          · exact ((hdj lb h1 h2).2.2.1 rfl).elim
          · exact .inr h2)
      clear hgl
      generalize bl.getD k 0 = cc at *
      clear hW hV hIr hO hcell hfz hbk hq1 hmk
      go_wp2_with fail
      refine Pu.regionM [(0, false), (1, false), (2, false), (3, false), (4, false), (5, false), (6, false), (7, false), (8, false), (9, false), (10, false), (11, false), (12, true)] (fun V => Ob V x 98 #[.slice (some ⟨sb, 0, none⟩) m m, .slice (some ⟨lb, 0, none⟩) m m, .slice (some ⟨tb, 0, none⟩) m m, .bool S, .int .i64 L2, .int .i64 N1, .int .i64 N2] ∧ BytesAt V lo hi (.slice (some ⟨bb, oo, none⟩) 64 c) bl) hmx (by kernel_rfl) (by kernel_rfl) (by kernel_rfl) ⟨hOd, hId⟩ rfl ?_
      simp only [Pu.named, List.filterMap_cons, List.filterMap_nil, List.getElem?_toArray, List.getElem?_cons_succ, List.getElem?_cons_zero, Option.map_some]
      iterate 12 (first
        | (refine Pu.WalkM.off (by rfl) ?_; simp only [Act.put, List.setIfInBounds_toArray, List.set_cons_succ, List.set_cons_zero])
        | (apply Pu.WalkM.on (by rfl)
           · intro V hV
             obtain ⟨gO, gI⟩ := hV
             have y0 := gO.cell (j := 0) (v := .slice (some ⟨sb, 0, none⟩) m m) rfl
             have y1 := gO.cell (j := 1) (v := .slice (some ⟨lb, 0, none⟩) m m) rfl
             have y2 := gO.cell (j := 2) (v := .slice (some ⟨tb, 0, none⟩) m m) rfl
             have yb := HBCk.out V gI
             go_wp2_with fail
             refine ⟨rfl, ?_, rfl⟩
             try simp only [Act.put, List.setIfInBounds_toArray, List.set_cons_succ, List.set_cons_zero]
             rfl
           simp only [Act.put, List.setIfInBounds_toArray, List.set_cons_succ, List.set_cons_zero]))
      refine Pu.WalkM.make (by rfl) ?_
      intro V hV
      rw [hV]
      clear hV V
      generalize hWd : wr.drew = WD at *
      clear hWd
      go_wp2_with fail
      refine ⟨rfl, undef, _, (fun V => V = WD.setCell ⟨lb, i * 64 + k, none⟩ (.int .u8 (cc.toNat : Int))), rfl, rfl, (fun V h => by rw [h]; exact ⟨hOe, hIe⟩), (.inr (fun _ h => h)), Pu.WalkM.nil ?_⟩
      intro V hV
      rw [hV]
      clear hV V
      simp only [Act.put]
      clear hcd hfd hOd hId hOe hIe
      go_wp2
      exact ⟨⟨k + 1, by omega, by go_num, HST.out, HVS.out⟩, by simp [intOf]; omega⟩
    · obtain rfl : k = 64 := by omega
      have hd : decide (((64 : Nat) : Int) < 64) = false := by simp
      have hlr := HRL.out
      have hwk : wK R1 i bl 64 = { R1 with last := R1.last.set i bl } := by
        unfold wK
        rw [partB_all (last_len HOK1.out (by rw [HM1.out]; exact hi1)) HBL.out]
      rw [hwk] at hW hO HW
      have hdl : i < R1.dirty.length := by rw [HOK1.out.dl, HM1.out]; exact hi1
      have hc2 := hW.dirty.cell (boolC_get hdl)
      have hf2 := hW.dirty.frozen i
      have hW2 := hW.setDirty i true
      have hg2 := grownBy_set wr tb i (.bool true)
      have hO2 := hO.kept hg2 (fun e => hW.ne.2.2.1 (Option.some.inj e))
      have hst := hW2.ob.set 5 (.int .i64 (wrap64 (R1.wr + 1)))
      have hg3 := grownBy_set (wr.setCell ⟨tb, i, none⟩ (.bool true)) x 5 (.int .i64 (wrap64 (R1.wr + 1)))
      have hfx := hO2.frozen 5
      have hok3 : OkR { R1 with last := R1.last.set i bl, dirty := R1.dirty.set i true, wr := wrap64 (R1.wr + 1) } := ⟨hW2.ok.sure, hW2.ok.last, hW2.ok.ll, hW2.ok.dl, hW2.ok.left, wrap64_bd _, hW2.ok.fl⟩
      have hW3 := hW2.own (R' := { R1 with last := R1.last.set i bl, dirty := R1.dirty.set i true, wr := wrap64 (R1.wr + 1) }) hg3 hst rfl rfl rfl hok3
      have HV3 := Lib.hid ((hV.trans (Rev.of (sb := sb) (lb := lb) (tb := tb) hg2 (.inr (.inr (.inr rfl))))).trans (Rev.of (sb := sb) (lb := lb) (tb := tb) hg3 (.inl rfl)))
      rw [HFIN.out, hlr.1, hlr.2] at hW3
      have HW3 := Lib.hid hW3
      have yy2 := hO.cell (j := 2) (v := .slice (some ⟨tb, 0, none⟩) m m) rfl
      have yy5 := hO2.cell (j := 5) (v := .int .i64 R1.wr) rfl
      generalize R1.wr = NW at *
      have hd2 : decide (i < m) = true := by simpa using hi1
      clear hwk hW hV hIr hmk hO hO2 hst hg2 hg3 hok3 hW2 hW3 hlr hdl
      go_wp2
      go_ret
      exact ⟨rfl, HW3.out, HV3.out⟩
end
end Se
end Go.Proofs.Yteiniahikhiadaa

namespace Go.Proofs.Yteiniahikhiadaa
open Go.RowKit Go.Maps
namespace Se
open Ce
section
variable {w w' : World} {base x sb lb tb : Nat} {R R' : Rv}
def flS (R : Rv) : Nat → Rv
  | 0 => R
  | k + 1 => { flS R k with sure := (flS R k).sure.set k (R.last.getD k []), dirty := (flS R k).dirty.set k false }
theorem flS_same (R : Rv) : ∀ k, (flS R k).last = R.last ∧ (flS R k).stops = R.stops ∧ (flS R k).left = R.left ∧ (flS R k).wr = R.wr ∧ (flS R k).fl = R.fl ∧ (flS R k).sure.length = R.sure.length ∧ (flS R k).dirty.length = R.dirty.length
  | 0 => ⟨rfl, rfl, rfl, rfl, rfl, rfl, rfl⟩
  | k + 1 => by
    obtain ⟨h1, h2, h3, h4, h5, h6, h7⟩ := flS_same R k
    refine ⟨h1, h2, h3, h4, h5, ?_, ?_⟩
    · simp [flS, h6]
    · simp [flS, h7]
theorem flS_at (R : Rv) (k j : Nat) : (flS R k).sure[j]? = (if j < k ∧ j < R.sure.length then some (R.last.getD j []) else R.sure[j]?) ∧ (flS R k).dirty[j]? = (if j < k ∧ j < R.dirty.length then some false else R.dirty[j]?) := by
  induction k with
  | zero => simp [flS]
  | succ k ih =>
    obtain ⟨-, -, -, -, -, h6, h7⟩ := flS_same R k
    simp only [flS]
    rw [List.getElem?_set, List.getElem?_set, ih.1, ih.2, h6, h7]
    constructor
    · by_cases e : k = j
      · subst e
        by_cases hl : k < R.sure.length
        · simp [hl]
        · simp [hl]
      · rw [if_neg e]
        by_cases h : j < k
        · simp [h, show j < k + 1 by omega]
        · simp [h, show ¬ j < k + 1 by omega]
    · by_cases e : k = j
      · subst e
        by_cases hl : k < R.dirty.length
        · simp [hl]
        · simp [hl]
      · rw [if_neg e]
        by_cases h : j < k
        · simp [h, show j < k + 1 by omega]
        · simp [h, show ¬ j < k + 1 by omega]
theorem flS_all {R : Rv} (hok : OkR R) : flS R R.sure.length = { R with sure := R.last, dirty := List.replicate R.sure.length false } := by
  obtain ⟨h1, h2, h3, h4, h5, h6, h7⟩ := flS_same R R.sure.length
  have e1 : (flS R R.sure.length).sure = R.last := by
    apply List.ext_getElem?
    intro j
    rw [(flS_at R _ j).1]
    by_cases hj : j < R.sure.length
    · rw [if_pos ⟨hj, hj⟩, List.getD_eq_getElem?_getD, List.getElem?_eq_getElem (by rw [hok.ll]; exact hj)]
      rfl
    · rw [if_neg (fun h => hj h.1), List.getElem?_eq_none (by omega), List.getElem?_eq_none (by rw [hok.ll]; omega)]
  have e2 : (flS R R.sure.length).dirty = List.replicate R.sure.length false := by
    apply List.ext_getElem?
    intro j
    rw [(flS_at R _ j).2, List.getElem?_replicate]
    by_cases hj : j < R.sure.length
    · rw [if_pos ⟨hj, by rw [hok.dl]; exact hj⟩, if_pos hj]
    · rw [if_neg (fun h => hj h.1), if_neg hj, List.getElem?_eq_none (by rw [hok.dl]; omega)]
  generalize flS R R.sure.length = Q at *
  obtain ⟨q1, q2, q3, q4, q5, q6, q7⟩ := Q
  dsimp only at h1 h2 h3 h4 h5 e1 e2
  subst h1 h2 h3 h4 h5 e1 e2
  rfl
set_option maxRecDepth 100000 in
theorem rflush_off (h : RvAt w base x sb lb tb R) (ho : offR R = true) :
    Calls Try.prog 45 #[.pointer (some ⟨x, 0, none⟩)] w fun e w' => e = .returned (.int .i64 30) ∧ w = w' := by
  have cO := roff_calls h
  rw [ho] at cO
  have CO := Lib.hid cO
  clear h cO ho
  go_enter Try.func45, Try.ntmps45
  go_wp2_with fail
  refine CO.out.mono ?_
  rintro e W ⟨rfl, rfl⟩
  go_wp2
  go_ret
  exact ⟨rfl, rfl⟩
set_option maxRecDepth 100000 in
set_option maxHeartbeats 8000000 in
theorem rflush_good (h : RvAt w base x sb lb tb R) (ho : offR R = false) :
    Calls Try.prog 45 #[.pointer (some ⟨x, 0, none⟩)] w fun e w' => e = .returned (.int .i64 0) ∧ RvAt w' base x sb lb tb { R with left := wrap64 (R.left - 1), sure := R.last, dirty := List.replicate R.sure.length false, fl := wrap64 (R.fl + 1) } ∧ Rev x sb lb tb w w' := by
  have cO := roff_calls h
  rw [ho] at cO
  have CO := Lib.hid cO
  obtain ⟨y0, y1, y2, y3, y4, y5, y6⟩ := h.cells
  have hlen := h.len.2
  have hst := h.ob.set 4 (.int .i64 (wrap64 (R.left - 1)))
  have hg := grownBy_set w x 4 (.int .i64 (wrap64 (R.left - 1)))
  have hz4 := h.ob.frozen 4
  obtain ⟨R1, hR1⟩ : ∃ R1 : Rv, R1 = { R with left := wrap64 (R.left - 1) } := ⟨_, rfl⟩
  have hC : (revC R sb lb tb).setIfInBounds 4 (.int .i64 (wrap64 (R.left - 1))) = revC R1 sb lb tb := by rw [hR1]; rfl
  rw [hC] at hst
  have hok1 : OkR R1 := by rw [hR1]; exact ⟨h.ok.sure, h.ok.last, h.ok.ll, h.ok.dl, wrap64_bd _, h.ok.wr, h.ok.fl⟩
  have H1 := Lib.hid (h.own (R' := R1) hg hst (by rw [hR1]) (by rw [hR1]) (by rw [hR1]) hok1)
  have HV1 := Lib.hid (Rev.of (sb := sb) (lb := lb) (tb := tb) hg (.inl rfl))
  have hm1 : R1.sure.length = R.sure.length := by rw [hR1]
  have HEND := Lib.hid (show ({ R1 with sure := R1.last, dirty := List.replicate R1.sure.length false, fl := wrap64 (R1.fl + 1) } : Rv) = { R with left := wrap64 (R.left - 1), sure := R.last, dirty := List.replicate R.sure.length false, fl := wrap64 (R.fl + 1) } by rw [hR1])
  generalize hm : R.sure.length = m at *
  generalize R.left = L at *
  have HM1 := Lib.hid hm1
  have HOK1 := Lib.hid hok1
  clear h hst hg hC hR1 cO ho hok1 hm1 hm y0 y1 y2 y3 y5 y6
  go_enter Try.func45, Try.ntmps45
  go_wp2_with fail
  refine CO.out.mono ?_
  rintro e W ⟨rfl, rfl⟩
  go_wp2_with fail
  clear y4 hz4
  go_loopw [3] (fun q wr => ∃ k : Nat, k ≤ m ∧ q = .int .i64 k ∧ RvAt wr base x sb lb tb (flS R1 k) ∧ Rev x sb lb tb w wr) (fun q _ => m - (intOf q).toNat)
  case atStart => exact ⟨0, by omega, rfl, H1.out, HV1.out⟩
  case round =>
    obtain ⟨k, hk, rfl, hW, hV⟩ := hrel
    clear H1 HV1
    obtain ⟨hs1, hs2, hs3, hs4, hs5, hs6, hs7⟩ := flS_same R1 k
    have hsl : (flS R1 k).sure.length = m := hs6.trans HM1.out
    have hO := hW.ob
    unfold revC at hO
    rw [hsl] at hO
    have yy0 := hO.cell (j := 0) (v := .slice (some ⟨sb, 0, none⟩) m m) rfl
    by_cases hlt : k < m
    · have hd : decide ((k : Int) < (m : Int)) = true := by simp; omega
      have hd' : decide (k < m) = true := by simpa using hlt
      have hll : k < (flS R1 k).last.length := by rw [hW.ok.ll, hsl]; exact hlt
      have eg : (flS R1 k).last[k] = R1.last.getD k [] := by
        rw [List.getD_eq_getElem?_getD, ← hs1, List.getElem?_eq_getElem hll]
        rfl
      have hr := hW.last.at_ k hll
      rw [eg] at hr
      have hlast64 : (R1.last.getD k []).length = 64 := by rw [← eg]; exact hW.ok.last _ (List.getElem_mem hll)
      have hth : wr.there sb (k * 64) 64 := there_part hW.sure.there (by rw [hsl]; omega)
      have hb := (Below.refl wr.heap.size wr).drew
      have HWD := Lib.hid (hW.same hb)
      have HW1 := Lib.hid (HWD.out.setSure (i := k) (by rw [hsl]; exact hlt) hlast64)
      have hdl : k < (flS R1 k).dirty.length := by rw [hW.ok.dl, hsl]; exact hlt
      have hc2 := HW1.out.dirty.cell (boolC_get hdl)
      have hf2 := HW1.out.dirty.frozen k
      have HW2 := Lib.hid (show RvAt _ base x sb lb tb (flS R1 (k + 1)) from HW1.out.setDirty k false)
      have hgc := grownBy_cells (b := sb) (bytesV (R1.last.getD k [])) wr.drew (k * 64)
      have HVS := Lib.hid ((hV.trans Rev.drew).trans ((Rev.of (x := x) (sb := sb) (lb := lb) (tb := tb) hgc (.inr (.inl rfl))).trans (Rev.of (x := x) (sb := sb) (lb := lb) (tb := tb) (grownBy_set _ tb k (.bool false)) (.inr (.inr (.inr rfl))))))
      have hOd : Ob wr.drew x 98 #[.slice (some ⟨sb, 0, none⟩) m m, .slice (some ⟨lb, 0, none⟩) m m, .slice (some ⟨tb, 0, none⟩) m m, .bool (flS R1 k).stops, .int .i64 (flS R1 k).left, .int .i64 (flS R1 k).wr, .int .i64 (flS R1 k).fl] := hO
      have hrd : wr.drew.rangeAt lb (k * 64) (bytesV (R1.last.getD k [])) := (World.rangeAt_drew _ _ _ _).2 hr
      have htd : wr.drew.there sb (k * 64) 64 := (World.there_drew _ _ _ _).2 hth
      have hne := hW.ne
      have hOc := hOd.kept hgc (fun e => hne.1 (Option.some.inj e))
      have hrc := range_of_block (hgc.block lb (show lb < wr.drew.heap.size from hW.last.lt) (fun e => hne.2.2.2.1 (Option.some.inj e).symm)) hrd
      have HL := Lib.hid hlast64
      generalize (flS R1 k).stops = S at *
      generalize (flS R1 k).left = L2 at *
      generalize (flS R1 k).wr = N1 at *
      generalize (flS R1 k).fl = N2 at *
      generalize (flS R1 k).dirty.getD k false = od at *
      generalize hbs : R1.last.getD k [] = bs at *
      have HSZ := Lib.hid (show (bytesV bs).toArray.size = 64 by simp [bytesV_length, HL.out])
      clear hW hV hO hr eg hll hth hb hdl hgc hlast64 hs1 hs2 hs3 hs4 hs5 hs6 hs7 hsl hbs HWD
      go_wp2_with fail
      refine Pu.regionM [(0, false), (1, false), (2, false), (3, false), (4, false), (5, false), (6, false), (7, false), (8, false), (9, false), (10, false), (11, false), (12, false), (13, false), (14, false), (15, false), (16, false), (17, false), (18, true), (19, false), (20, true)] (fun V => Ob V x 98 #[.slice (some ⟨sb, 0, none⟩) m m, .slice (some ⟨lb, 0, none⟩) m m, .slice (some ⟨tb, 0, none⟩) m m, .bool S, .int .i64 L2, .int .i64 N1, .int .i64 N2] ∧ V.rangeAt lb (k * 64) (bytesV bs)) hmx (by kernel_rfl) (by kernel_rfl) (by kernel_rfl) ⟨hOd, hrd⟩ rfl ?_
      simp only [Pu.named, List.filterMap_cons, List.filterMap_nil, List.getElem?_toArray, List.getElem?_cons_succ, List.getElem?_cons_zero, Option.map_some]
      iterate 16 (first
        | (refine Pu.WalkM.off (by rfl) ?_; simp only [Act.put, List.setIfInBounds_toArray, List.set_cons_succ, List.set_cons_zero])
        | (apply Pu.WalkM.on (by rfl)
           · intro V hV
             obtain ⟨gO, gr⟩ := hV
             have y0 := gO.cell (j := 0) (v := .slice (some ⟨sb, 0, none⟩) m m) rfl
             have y1 := gO.cell (j := 1) (v := .slice (some ⟨lb, 0, none⟩) m m) rfl
             have y2 := gO.cell (j := 2) (v := .slice (some ⟨tb, 0, none⟩) m m) rfl
             go_wp2_with fail
             refine ⟨rfl, ?_, rfl⟩
             try simp only [Act.put, List.setIfInBounds_toArray, List.set_cons_succ, List.set_cons_zero]
             rfl
           simp only [Act.put, List.setIfInBounds_toArray, List.set_cons_succ, List.set_cons_zero]))
      apply Pu.WalkM.on (by rfl)
      · intro V hV
        obtain ⟨gO, gr⟩ := hV
        refine wpList_load_mid rfl 102 (.tmp 37) rfl lb (k * 64) rfl (bytesV bs) _ gr Try.underlying102 rfl (by rw [bytesV_length, HL.out]; kernel_rfl) ?_
        go_wp2_with fail
        refine ⟨rfl, ?_, rfl⟩
        try simp only [Act.put, List.setIfInBounds_toArray, List.set_cons_succ, List.set_cons_zero]
        rfl
      simp only [Act.put, List.setIfInBounds_toArray, List.set_cons_succ, List.set_cons_zero]
      iterate 1 (first
        | (refine Pu.WalkM.off (by rfl) ?_; simp only [Act.put, List.setIfInBounds_toArray, List.set_cons_succ, List.set_cons_zero])
        | (apply Pu.WalkM.on (by rfl)
           · intro V hV
             obtain ⟨gO, gr⟩ := hV
             have y0 := gO.cell (j := 0) (v := .slice (some ⟨sb, 0, none⟩) m m) rfl
             have y1 := gO.cell (j := 1) (v := .slice (some ⟨lb, 0, none⟩) m m) rfl
             have y2 := gO.cell (j := 2) (v := .slice (some ⟨tb, 0, none⟩) m m) rfl
             go_wp2_with fail
             refine ⟨rfl, ?_, rfl⟩
             try simp only [Act.put, List.setIfInBounds_toArray, List.set_cons_succ, List.set_cons_zero]
             rfl
           simp only [Act.put, List.setIfInBounds_toArray, List.set_cons_succ, List.set_cons_zero]))
      generalize hWd : wr.drew = WD at *
      clear hWd
      refine Pu.WalkM.make (by rfl) ?_
      intro V hV
      rw [hV]
      clear hV V
      refine wpList_store_mid rfl 102 (.tmp 39) (.tmp 38) rfl sb (k * 64) (bytesV bs).toArray rfl rfl (by rw [HSZ.out]; exact htd) (by rw [HSZ.out]; kernel_rfl) (all_oneCell_toArray (bytesV_one bs)) ?_
      have eT : (bytesV bs).toArray.toList = bytesV bs := by simp
      rw [eT]
      clear eT
      refine ⟨rfl, undef, _, (fun V => V = WD.setCells sb (k * 64) (bytesV bs)), rfl, rfl, (fun V h => by rw [h]; exact ⟨hOc, hrc⟩), (.inr (fun _ h => h)), ?_⟩
      simp only [Act.put]
      generalize hWe : WD.setCells sb (k * 64) (bytesV bs) = WE at *
      clear hWe
      iterate 1 (first
        | (refine Pu.WalkM.off (by rfl) ?_; simp only [Act.put, List.setIfInBounds_toArray, List.set_cons_succ, List.set_cons_zero])
        | (apply Pu.WalkM.on (by rfl)
           · intro V hV
             obtain ⟨gO, gr⟩ := hV
             have y0 := gO.cell (j := 0) (v := .slice (some ⟨sb, 0, none⟩) m m) rfl
             have y1 := gO.cell (j := 1) (v := .slice (some ⟨lb, 0, none⟩) m m) rfl
             have y2 := gO.cell (j := 2) (v := .slice (some ⟨tb, 0, none⟩) m m) rfl
             go_wp2_with fail
             refine ⟨rfl, ?_, rfl⟩
             try simp only [Act.put, List.setIfInBounds_toArray, List.set_cons_succ, List.set_cons_zero]
             rfl
           simp only [Act.put, List.setIfInBounds_toArray, List.set_cons_succ, List.set_cons_zero]))
      refine Pu.WalkM.make (by rfl) ?_
      intro V hV
      rw [hV]
      clear hV V
      go_wp2_with fail
      refine ⟨rfl, undef, (fun _ => True), (fun V => V = WE.setCell ⟨tb, k, none⟩ (.bool false)), rfl, rfl, (fun _ _ => trivial), (.inl (by kernel_rfl)), Pu.WalkM.nil ?_⟩
      intro V hV
      rw [hV]
      clear hV V
      simp only [Act.put]
      clear hc2 hf2 hOd hrd htd hOc hrc
      go_wp2
      exact ⟨⟨k + 1, by omega, by go_num, HW2.out, HVS.out⟩, by simp [intOf]; omega⟩
    · obtain rfl : k = m := by omega
      have hd : decide ((k : Int) < (k : Int)) = false := by simp
      have hd' : decide (k < k) = false := by simp
      have hfx := hO.frozen 6
      have yy6 := hO.cell (j := 6) (v := .int .i64 (flS R1 k).fl) rfl
      rw [hs5] at yy6
      have hst := hW.ob.set 6 (.int .i64 (wrap64 (R1.fl + 1)))
      have hg3 := grownBy_set wr x 6 (.int .i64 (wrap64 (R1.fl + 1)))
      have hfa := flS_all HOK1.out
      rw [HM1.out] at hfa
      rw [hfa] at hst hW
      have hok3 : OkR { R1 with sure := R1.last, dirty := List.replicate R1.sure.length false, fl := wrap64 (R1.fl + 1) } := by
        have := hW.ok
        rw [HM1.out]
        exact ⟨this.sure, this.last, this.ll, this.dl, this.left, this.wr, wrap64_bd _⟩
      have hW3 := hW.own (R' := { R1 with sure := R1.last, dirty := List.replicate R1.sure.length false, fl := wrap64 (R1.fl + 1) }) hg3 hst rfl rfl (by rw [HM1.out]) hok3
      rw [HEND.out] at hW3
      have HW3 := Lib.hid hW3
      have HV3 := Lib.hid (hV.trans (Rev.of (sb := sb) (lb := lb) (tb := tb) hg3 (.inl rfl)))
      generalize R1.fl = NF at *
      clear hW hV hO hst hg3 hok3 hW3 hfa hs1 hs2 hs3 hs4 hs5 hs6 hs7 hsl
      go_wp2
      go_ret
      exact ⟨rfl, HW3.out, HV3.out⟩
theorem rflush_calls (h : RvAt w base x sb lb tb R) :
    Calls Try.prog 45 #[.pointer (some ⟨x, 0, none⟩)] w fun e w' => e = .returned (.int .i64 (flushR R).2) ∧ RvAt w' base x sb lb tb (flushR R).1 ∧ Rev x sb lb tb w w' := by
  unfold flushR
  cases ho : offR R with
  | true =>
    refine (rflush_off h ho).mono ?_
    rintro e W ⟨rfl, rfl⟩
    exact ⟨rfl, h, Rev.refl _⟩
  | false => exact rflush_good h ho
theorem rwrite_calls (h : RvAt w base x sb lb tb R) (i : Int) (bl : List UInt8) (v : Value) (lo hi : Nat) (hI : BytesAt w lo hi v bl) (hhi : hi ≤ w.heap.size) (hdj : ∀ k, lo ≤ k → k < hi → k ≠ x ∧ k ≠ sb ∧ k ≠ lb ∧ k ≠ tb) :
    Calls Try.prog 44 #[.pointer (some ⟨x, 0, none⟩), .int .i64 i, v] w fun e w' => e = .returned (.int .i64 (writeR R i bl).2) ∧ RvAt w' base x sb lb tb (writeR R i bl).1 ∧ Rev x sb lb tb w w' := by
  unfold writeR
  by_cases hbad : i < 0 ∨ (R.sure.length : Int) ≤ i ∨ bl.length ≠ 64
  · rw [if_pos hbad]
    obtain ⟨A, c, rfl, -⟩ := hI.form
    refine (rwrite_arg h i A _ c hbad).mono ?_
    rintro e W ⟨rfl, rfl⟩
    exact ⟨rfl, h, Rev.refl _⟩
  · rw [if_neg hbad]
    obtain ⟨k, rfl⟩ := Int.eq_ofNat_of_zero_le (show 0 ≤ i by omega)
    cases ho : offR R with
    | true =>
      obtain ⟨A, c, rfl, -⟩ := hI.form
      rw [show bl.length = 64 by omega]
      refine (rwrite_off h ho k A c (by omega)).mono ?_
      rintro e W ⟨rfl, rfl⟩
      exact ⟨rfl, h, Rev.refl _⟩
    | false => exact rwrite_good h ho k bl v lo hi hI hhi hdj (by omega) (by omega)
end
end Se
end Go.Proofs.Yteiniahikhiadaa

namespace Go.Proofs.Yteiniahikhiadaa
open Go.RowKit
namespace Se
open Ce
theorem zeroBytes (n : Nat) : (Builtin.zeroCells (Value.int .u8 0).cells n).toList = bytesV (List.replicate n 0) := by
  have hz : (Value.int .u8 0).cells = #[.int .u8 0] := rfl
  unfold Builtin.zeroCells bytesV
  rw [hz]
  apply List.ext_getElem
  · simp
  · intro i h1 h2
    simp [Nat.mod_one]
theorem zeros_fresh (w : World) (base n m old : Nat) (l : List UInt8) (row : Option Nat) (hn : n = l.length) (hlt : old < n + m) (hb : n + m ≤ 1000000) (hbase : base ≤ w.heap.size) :
    (w.drew.alloc (.cells ((bytesV l).toArray ++ Builtin.zeroCells (Value.int .u8 0).cells m ++ Builtin.zeroCells (Value.int .u8 0).cells (grownCap w (n + m) old 5 - (n + m))) 5)).ownsRow base 5 1
      (.slice (some ⟨w.heap.size, 0, none⟩) (n + m) (grownCap w (n + m) old 5)) (n + m) (bytesV (l ++ List.replicate m 0)) ∧
    w.grownBy (w.drew.alloc (.cells ((bytesV l).toArray ++ Builtin.zeroCells (Value.int .u8 0).cells m ++ Builtin.zeroCells (Value.int .u8 0).cells (grownCap w (n + m) old 5 - (n + m))) 5)) row := by
  have hge := grownCap_ge w (n + m) old 5
  have hcm : grownCap w (n + m) old 5 ≤ maxLen := grownCap_le_maxLen w (n + m) old 5 (by unfold maxLen; omega)
  have hsz : (Value.int .u8 0).cells.size = 1 := rfl
  have hbl : (bytesV l).length = n := by rw [bytesV_length, hn]
  have hcat : bytesV (l ++ List.replicate m 0) = bytesV l ++ bytesV (List.replicate m 0) := by simp [bytesV]
  refine ⟨⟨by rw [bytesV_length, List.length_append, List.length_replicate, hn]; omega, .inr ⟨w.heap.size, _, _, rfl, hbase, heap_alloc_new w.drew _, hge, hcm, ?_, ?_⟩⟩, only_of_below (((Below.refl w.heap.size w).drew).alloc (Nat.le_refl _) _) row⟩
  · simp only [Array.size_append, List.size_toArray, size_zeroCells, hsz, hbl]
    omega
  · simp only [Array.toList_append, zeroBytes]
    rw [hcat]
    have hm : (bytesV (List.replicate m 0)).length = m := by rw [bytesV_length, List.length_replicate]
    rw [List.take_append_of_le_length (by rw [List.length_append, hm, hbl]; omega), List.take_of_length_le (by rw [List.length_append, hm, hbl]; omega)]
/-- zeros put behind -/
theorem append_zeros (w : World) (base : Nat) (v : Value) (n m : Nat) (l : List UInt8) (ty : TypeId) (hown : w.ownsRow base 5 1 v n (bytesV l)) (hm : 0 < m) (hb : n + m ≤ 1000000) (hbase : base ≤ w.heap.size) :
    ∃ v' w', (Builtin.append_ #[34, 3] ty #[v, .int .i64 m]).run Try.prog w = .ok v' w' ∧ w'.ownsRow base 5 1 v' (n + m) (bytesV (l ++ List.replicate m 0)) ∧ w.grownBy w' v.ownBlock := by
  obtain ⟨i0, hi0, hz0⟩ := Option.map_eq_some_iff.1 byteInfo
  simp only [Prod.mk.injEq] at hz0
  obtain ⟨hz0, hz1, hz2⟩ := hz0
  have hn : n = l.length := by have := hown.1; rw [bytesV_length] at this; omega
  rcases hown.2 with ⟨rfl, h0⟩ | ⟨g, cap, cur, rfl, hbg, hg, hnc, hcm, hcs, htake⟩
  · subst h0
    obtain rfl := List.eq_nil_of_length_eq_zero hn.symm
    have hr := Lib.run_append_nil_zeros (P := Try.prog) w 34 3 ty 5 i0 _ .i64 .i64 Try.underlying34 Try.underlying3 hi0 hz0 m hm (by omega) (by omega) (by rw [hz2]; omega)
    have hf := zeros_fresh w base 0 m 0 [] (Value.ownBlock (.slice none 0 0)) rfl (by omega) hb hbase
    simp only [Nat.zero_add, List.nil_append, show bytesV [] = [] from rfl, Array.empty_append] at hf ⊢
    exact ⟨_, _, hr, hf.1, hf.2⟩
  · by_cases hroom : n + m ≤ cap
    · have hzl : (Builtin.zeroCells (Value.int .u8 0).cells m).toList.length = m := by rw [zeroBytes, bytesV_length, List.length_replicate]
      have hst := run_storeCells_at Try.prog g n 5 (Builtin.zeroCells (Value.int .u8 0).cells m).toList 0 cur w hg (by rw [hzl]; omega) (by rw [zeroBytes]; exact bytesV_one _)
      simp only [Nat.add_zero] at hst
      have hw : IntKind.i64.wrap (m : Int) = m := by rw [IntKind.wrap_i64]; omega
      have hneg : ¬ ((m : Int) < 0) := by omega
      have hbig : ¬ (281474976710656 < (m : Int) * (i0.bytes : Int)) := by rw [hz2]; omega
      have hne : ¬ (m * i0.size = 0) := by rw [hz1]; omega
      refine ⟨.slice (some ⟨g, 0, none⟩) (n + m) cap, w.setRow g (cur.toList.take n ++ (Builtin.zeroCells (Value.int .u8 0).cells m).toList ++ cur.toList.drop (n + (Builtin.zeroCells (Value.int .u8 0).cells m).toList.length)).toArray, ?_, ⟨by rw [bytesV_length, List.length_append, List.length_replicate, hn]; omega, .inr ⟨g, cap, _, rfl, hbg, setRow_heap w g cur _ 5 _ hg, hroom, hcm, ?_, ?_⟩⟩, ⟨rfl, rfl, rfl, by simp, fun k _ hk => setRow_other w g k _ (fun e => hk (by simp [Value.ownBlock, e]))⟩⟩
      · simp [Builtin.append_, run_underlying Try.underlying34, run_underlying Try.underlying3, sizeOf, typeInfo, zeroValue, hi0, hz0, hz1, asInt, asIntOf, hw, hneg, hbig, hroom, Addr.add_lit, hst]
        omega
      · simp only [List.size_toArray, List.length_append, List.length_take, List.length_drop, Array.length_toList, hzl]
        omega
      · rw [Nat.mul_one] at htake
        rw [htake, zeroBytes, show bytesV (l ++ List.replicate m 0) = bytesV l ++ bytesV (List.replicate m 0) by simp [bytesV]]
        have h2 : (bytesV l ++ bytesV (List.replicate m 0)).length = (n + m) * 1 := by rw [List.length_append, bytesV_length, bytesV_length, List.length_replicate, hn]; omega
        rw [← h2]
        exact List.take_left
    · have holds := hown.cells (g := g) rfl
      have hold : (Builtin.firstCells i0.size n (.slice (some ⟨g, 0, none⟩) n cap)).run Try.prog w.drew = .ok (bytesV l).toArray w.drew := by
        rw [hz1]
        exact run_firstCells_some (P := Try.prog) w.drew 1 n ⟨g, 0, none⟩ n cap (bytesV l) hown.1 holds
      have hr := Lib.run_append_grow_zeros (P := Try.prog) w 34 3 ty 5 i0 _ .i64 .i64 Try.underlying34 Try.underlying3 hi0 hz0 (some ⟨g, 0, none⟩) n cap (bytesV l) hold m hm (by omega) (by omega) (by omega) (by rw [hz2]; omega) (by rw [hz2]; exact growslice_fits (by omega) (by omega))
      have hf := zeros_fresh w base n m cap l (Value.ownBlock (.slice (some ⟨g, 0, none⟩) n cap)) hn (by omega) hb hbase
      exact ⟨_, _, hr, hf.1, hf.2⟩
end Se
end Go.Proofs.Yteiniahikhiadaa

namespace Go.Proofs.Yteiniahikhiadaa
open Go.RowKit Go.Maps
namespace Wa
open Ce Se
set_option maxRecDepth 100000 in
set_option maxHeartbeats 4000000 in
theorem rhead_calls (g : Int) (half : Nat) (hh : half ≤ 1) (w : World) (h0 : -9223372036854775808 ≤ g) (h1 : g < 9223372036854775808) :
    Calls Try.prog 89 #[.int .i64 g, .int .i64 half] w fun e w' => (∃ v, e = .returned v ∧ w'.ownsRow w.heap.size 5 1 v 64 (bytesV (headB g half))) ∧ Below w.heap.size w w' := by
  obtain ⟨i0, hi0, hz0⟩ := Option.map_eq_some_iff.1 byteInfo
  simp only [Prod.mk.injEq] at hz0
  obtain ⟨hz0, hz1, hz2⟩ := hz0
  have HUG := Lib.hid (show g % 18446744073709551616 = ((g % 18446744073709551616).toNat : Int) by omega)
  have HG := Lib.hid (fun k (hk : k < 8) => be8_get g hk)
  have HL := Lib.hid (be8_len g)
  generalize (g % 18446744073709551616).toNat = U at *
  go_enter Try.func89, Try.ntmps89
  go_wp2
  go_loopw [5, 6] (fun bv i wr => ∃ k : Nat, k ≤ 8 ∧ i = .int .i64 (7 - (k : Int)) ∧ wr.ownsRow w.heap.size 5 1 bv k (bytesV ((be8 g).take k)) ∧ Below w.heap.size w wr) (fun _ i _ => (intOf i + 1).toNat)
  case atStart => exact ⟨0, by omega, rfl, World.ownsRow_nil _ _ _ _, Below.refl _ _⟩
  case round =>
    obtain ⟨k, hk, rfl, hown, hB⟩ := hrel
    obtain ⟨Ab, cb, rfl, -⟩ := (Sl.of_own hown).at_
    by_cases hlt : k < 8
    · rw [show (7 - (k : Int)) = ((7 - k : Nat) : Int) by omega]
      have HJ := Lib.hid (show (7 - k) + k = 7 by omega)
      have hj7 : 7 - k ≤ 7 := by omega
      generalize 7 - k = j at *
      have hd : decide ((j : Int) ≥ 0) = true := by simp
      have hk7 : k ≤ 7 := by have := HJ.out; omega
      have hsB := hB.size
      have hbt : Value.int .u8 (IntKind.u64.wrap g / 2 ^ (8 * j) % 256) = .int .u8 ((UInt8.ofNat (U / 256 ^ j % 256)).toNat : Int) := by
        have e1 : IntKind.u64.wrap g = (U : Int) := by rw [← HUG.out]; rfl
        rw [e1, byte_shift (by omega), Int.toNat_natCast]
        congr 2
        simp
      have HBT := Lib.hid hbt
      clear hbt
      go_wp2_with (at_builtin; refine wpList_append_sl _ rfl (.tmp 11) (.tmp 18) _ rfl w.heap.size 5 i0 _ 1 1 Try.underlying34 hi0 hz0 hz1 hz2 rfl (by omega) _ k (bytesV ((be8 g).take k)) rfl (hown.alloc _) wr.heap.size (wr.heap.size + 1) _ 1 [.int .u8 (IntKind.u64.wrap g / 2 ^ (8 * j) % 256)] rfl (Sl.new wr #[.int .u8 (IntKind.u64.wrap g / 2 ^ (8 * j) % 256)] 5 (n := 1) rfl (by unfold maxLen; omega)) (by simp [Value.oneCell']) (by unfold maxLen; omega) (by omega) (by simp; omega) ?_; intro v1 W1 hv1 hg1 hat1; have hB1 := (hB.alloc hsB (.cells #[.int .u8 (IntKind.u64.wrap g / 2 ^ (8 * j) % 256)] 5)).grown hg1 (by simp; omega) (fun r e => by have := (hown.lt r e).1; exact this); clear hg1 hat1 hB hown)
      go_roundw
      case rel =>
        refine ⟨k + 1, by omega, ?_, ?_, hB1⟩
        · have := HJ.out
          congr 1
          omega
        · have e2 : (be8 g).take (k + 1) = (be8 g).take k ++ [UInt8.ofNat (U / 256 ^ j % 256)] := by
            have h3 : k < (be8 g).length := by rw [HL.out]; omega
            rw [List.take_succ_eq_append_getElem h3]
            congr 2
            have h4 := HG.out k (by omega)
            rw [List.getElem?_eq_getElem h3] at h4
            rw [Option.some.inj h4, show 7 - k = j by have := HJ.out; omega]
          rw [e2]
          have e3 : bytesV ((be8 g).take k ++ [UInt8.ofNat (U / 256 ^ j % 256)]) = bytesV ((be8 g).take k) ++ [.int .u8 (IntKind.u64.wrap g / 2 ^ (8 * j) % 256)] := by rw [HBT.out]; simp [bytesV]
          rw [e3]
          exact hv1
      case measure => simp [intOf]
    · obtain rfl : k = 8 := by omega
      have hd : decide ((7 - ((8 : Nat) : Int)) ≥ 0) = false := by decide
      rw [List.take_of_length_le (by rw [HL.out]; omega)] at hown
      have hsB := hB.size
      have hl8 : (bytesV (be8 g)).length = 8 := by rw [bytesV_length, HL.out]
      have hhb : bytesV (be8 g ++ [UInt8.ofNat half]) = bytesV (be8 g) ++ [.int .u8 (half : Int)] := by
        have h3 : (UInt8.ofNat half).toNat = half := by simp; omega
        simp [bytesV, h3]
      have HHB := Lib.hid hhb
      clear hhb
      go_wp2_with (first
        | (at_builtin; refine wpList_append_sl _ rfl (.tmp 20) (.tmp 23) _ rfl w.heap.size 5 i0 _ 1 1 Try.underlying34 hi0 hz0 hz1 hz2 rfl (by omega) _ 8 (bytesV (be8 g)) rfl (hown.alloc _) wr.heap.size (wr.heap.size + 1) _ 1 [.int .u8 (half : Int)] rfl (Sl.new wr #[.int .u8 (half : Int)] 5 (n := 1) rfl (by unfold maxLen; omega)) (by simp [Value.oneCell']) (by unfold maxLen; omega) (by omega) (by simp; omega) ?_; intro v1 W1 hv1 hg1 hat1; have hB1 := (hB.alloc hsB (.cells #[.int .u8 (half : Int)] 5)).grown hg1 (by simp; omega) (fun r e => by have := (hown.lt r e).1; exact this); clear hg1 hat1 hB hown; rw [← HHB.out] at hv1; obtain ⟨v2, W2, hz, hv2, hg2⟩ := append_zeros W1 w.heap.size v1 (8 + 1) 23 (be8 g ++ [UInt8.ofNat half]) 34 hv1 (by omega) (by omega) hB1.size; rw [show ((23 : Nat) : Int) = 23 from rfl] at hz; have HZ := Lib.hid hz; have hB2 := hB1.grown hg2 hB1.size (fun r e => by have := (hv1.lt r e).1; exact this); have hs2 := hB2.size; clear hz hg2 hv1 hB1; rw [show be8 g ++ [UInt8.ofNat half] ++ List.replicate 23 0 = h32 g half by unfold h32; rw [List.append_assoc]; rfl] at hv2; obtain ⟨A2, c2, rfl, -⟩ := (Sl.of_own hv2).at_)
        | (at_builtin; refine Lib.wpList_append_run _ rfl _ _ _ _ rfl _ _ rfl rfl _ _ HZ.out ?_)
        | (at_builtin; refine wpList_append_sl _ rfl (.tmp 26) (.tmp 27) _ rfl W2.heap.size 5 i0 _ 1 1 Try.underlying34 hi0 hz0 hz1 hz2 rfl (by omega) (.slice (some ⟨W2.heap.size, 0, none⟩) 0 0) 0 [] rfl (World.ownsRow_lit (e := 5) (size := 1) W2 #[] 0 (Nat.le_refl _) (Nat.zero_le _) rfl) 0 (W2.heap.size + 1) _ 32 (bytesV (h32 g half)) rfl (((Sl.of_own hv2).below ((Below.refl W2.heap.size W2).alloc (Nat.le_refl _) (.cells #[] 5))).wide (Nat.zero_le _) (by omega)) (bytesV_one _) (by unfold maxLen; omega) (by omega) (by simp) ?_; intro v3 W3 hv3 hg3 hat3; have hb3 := ((Below.refl W2.heap.size W2).alloc (Nat.le_refl _) (.cells #[] 5)).grown hg3 (by simp) (fun k e => by cases e; exact Nat.le_refl _); have hB3 := hB2.trans (hb3.mono hB2.size); have hw2 := Sl.below (Sl.of_own hv2) hb3; have hs3 := hb3.size; simp only [Nat.zero_add, List.nil_append] at hv3; obtain ⟨A3, c3, rfl, -⟩ := (Sl.of_own hv3).at_; clear hg3 hat3 hv2 hB2 hb3)
        | (at_builtin; refine wpList_append_sl _ rfl (.tmp 28) (.tmp 29) _ rfl W2.heap.size 5 i0 _ 1 1 Try.underlying34 hi0 hz0 hz1 hz2 rfl (by omega) _ 32 (bytesV (h32 g half)) rfl hv3 0 W3.heap.size _ 32 (bytesV (h32 g half)) rfl (hw2.wide (Nat.zero_le _) (by omega)) (bytesV_one _) (by unfold maxLen; omega) (by omega) (by omega) ?_; intro v4 W4 hv4 hg4 hat4; have hB4 := hB3.grown hg4 hB3.size (fun r e => by have := (hv3.lt r e).1; omega); clear hg4 hat4 hv3 hB3 hw2))
      go_ret
      refine ⟨⟨_, rfl, ?_⟩, hB4⟩
      have e5 : bytesV (headB g half) = bytesV (h32 g half) ++ bytesV (h32 g half) := by unfold headB; simp [bytesV]
      rw [e5]
      exact row_wide hv4 hs2
end Wa
end Go.Proofs.Yteiniahikhiadaa

namespace Go.Proofs.Yteiniahikhiadaa
open Go.RowKit Go.Maps
namespace Wa
open Ce Se
set_option maxRecDepth 100000 in
set_option maxHeartbeats 4000000 in
theorem rishead_calls (l : List UInt8) (hl : l.length = 64) (i : Nat) (v : Value) (w : World) (hI : BytesAt w 0 w.heap.size v l) :
    Calls Try.prog 59 #[v, .int .i64 i] w fun e w' => e = .returned (.tuple #[.int .i64 (isHd l i).1, .int .i64 (isHd l i).2]) ∧ Below w.heap.size w w' := by
  obtain ⟨A, c, rfl, hc1, hc2⟩ := hI.form
  rw [hl] at hI hc1 ⊢
  have HG := Lib.hid (fun k (hk : k < 64) => hI.cellAt (j := k) (by omega))
  obtain ⟨p, o, hA, -, hpl, -⟩ := HG.out 0 (by omega)
  subst hA
  have HC := Lib.hid (fun k (hk : k < 64) => show w.cell? ⟨p, o + k, none⟩ = some (.int .u8 ((l.getD k 0).toNat : Int)) by
    obtain ⟨p', o', e, h1, h2, h3⟩ := HG.out k hk
    cases e
    rw [h3, List.getD_eq_getElem?_getD, List.getElem?_eq_getElem (by omega)]
    rfl)
  unfold maxLen at hc2
  go_enter Try.func59, Try.ntmps59
  go_wp2
  go_loop [6, 7] (fun u i => ∃ k : Nat, k ≤ 8 ∧ i = .int .i64 k ∧ u = .int .u64 (be (l.take k))) (fun _ i => 8 - (intOf i).toNat)
  case atStart => exact ⟨0, by omega, rfl, rfl⟩
  case round =>
    obtain ⟨k, hk, rfl, rfl⟩ := hrel
    by_cases hlt : k < 8
    · have hcell := HC.out k (by omega)
      have hub := be_short (l := l.take k) (by rw [List.length_take]; omega)
      have HS := Lib.hid (show be (l.take (k + 1)) = be (l.take k) * 256 + (l.getD k 0).toNat by rw [List.take_succ_eq_append_getElem (by omega), be_snoc, List.getD_eq_getElem?_getD, List.getElem?_eq_getElem (by omega)]; rfl)
      have hq : (l.getD k 0).toNat < 256 := (l.getD k 0).toNat_lt
      generalize be (l.take k) = u at *
      generalize (l.getD k 0).toNat = q at *
      go_wp2
      go_round
      case rel => exact ⟨k + 1, by omega, by go_num, by rw [HS.out]; go_num⟩
      case measure => simp [intOf]; omega
    · obtain rfl : k = 8 := by omega
      have hub := be_eight (l := l.take 8) (by rw [List.length_take]; omega)
      have hcell := HC.out 8 (by omega)
      have HD := Lib.hid (show isHd l i = if toI (be (l.take 8)) < 1 ∨ toI (be (l.take 8)) % 2 ≠ i ∨ (l.getD 8 0).toNat > 1 ∨ headB (toI (be (l.take 8))) (l.getD 8 0).toNat ≠ l then (0, 0) else (toI (be (l.take 8)), (l.getD 8 0).toNat) from rfl)
      have HW := Lib.hid (show wrap64 (be (l.take 8) : Int) = toI (be (l.take 8)) by unfold wrap64 toI; split <;> omega)
      have htb := toI_bd hub
      have HI := Lib.hid hI
      have hq : (l.getD 8 0).toNat < 256 := (l.getD 8 0).toNat_lt
      generalize (l.getD 8 0).toNat = H at *
      generalize be (l.take 8) = u at *
      generalize toI u = G at *
      clear hI HG HC
      go_wp2_with fail
      rw [HW.out]
      clear HW hub hc1 hc2
      have hmx : Try.prog.follows .mixedOrders = true := by kernel_rfl
      by_cases h1 : G < 1
      · have HR := Lib.hid (HD.out.trans (if_pos (.inl h1)))
        have hd : decide (G < 1) = true := by simpa using h1
        clear h1  HD HI
        go_region
        go_wp2
        go_ret2
        rw [HR.out]
        exact ⟨rfl, (Below.refl _ w).drew⟩
      · have hd : decide (G < 1) = false := by simpa using h1
        have hg1 : 1 ≤ G := by omega
        by_cases h2 : G % 2 ≠ i
        · have HR := Lib.hid (HD.out.trans (if_pos (.inr (.inl h2))))
          have hd2 : (G % 2 != (i : Int)) = true := by simpa using h2
          clear h1 h2 HD HI
          go_region
          go_wp2
          go_ret2
          rw [HR.out]
          exact ⟨rfl, (Below.refl _ w).drew⟩
        · have hd2 : (G % 2 != (i : Int)) = false := by simpa using h2
          by_cases h3 : H > 1
          · have HR := Lib.hid (HD.out.trans (if_pos (.inr (.inr (.inl h3)))))
            have hd3 : decide ((H : Int) > 1) = true := by simp; omega
            clear h1 h2 h3 HD HI
            go_region
            go_wp2
            go_ret2
            rw [HR.out]
            exact ⟨rfl, (Below.refl _ w).drew⟩
          · have hd3 : decide ((H : Int) > 1) = false := by simp; omega
            obtain ⟨s2, hs2⟩ : ∃ s2 : ByteArray, s2 = ⟨l.toArray⟩ := ⟨_, rfl⟩
            have hI2 := fun (W : World) (hW : Below w.heap.size w W) => string_of W (BytesAt.mono HI.out hW hW.size)
            rw [← hs2] at hI2
            have HI2 := Lib.hid hI2
            have HCE := Lib.hid (fun (W : World) (hW : Below w.heap.size w W) => show W.cell? ⟨p, o + 8, none⟩ = some (.int .u8 (H : Int)) from (hW.cell (p := ⟨p, o + 8, none⟩) hpl).trans hcell)
            have hdr := (Below.refl w.heap.size w).drew
            have CH := Lib.hid (fun W => rhead_calls G H (by omega) W htb.1 htb.2)
            have hqq : (headB G H = l ∧ isHd l i = (G, H)) ∨ (¬ headB G H = l ∧ isHd l i = (0, 0)) := by
              by_cases h4 : headB G H = l
              · exact .inl ⟨h4, HD.out.trans (if_neg (fun h => h.elim h1 fun h => h.elim h2 fun h => h.elim h3 fun h => h h4))⟩
              · exact .inr ⟨h4, HD.out.trans (if_pos (.inr (.inr (.inr h4))))⟩
            have HQ := Lib.hid hqq
            have HS2 := Lib.hid hs2
            clear h1 h2 h3 HD HI hI2 hqq hs2 hcell
            refine Pu.regionM [(0, false), (1, false), (2, false), (3, false), (4, false), (5, false), (6, false), (7, false), (8, false), (9, false), (10, false), (11, false), (12, false), (13, false), (14, false), (15, false), (16, false), (17, false), (18, false), (19, false), (22, false), (23, false), (20, true), (21, false), (24, false), (25, false)] (fun V => Below w.heap.size w V) hmx (by kernel_rfl) (by kernel_rfl) (by kernel_rfl) hdr rfl ?_
            simp only [Pu.named, List.filterMap_cons, List.filterMap_nil, List.getElem?_toArray, List.getElem?_cons_succ, List.getElem?_cons_zero, Option.map_some]
            iterate 22 (apply Pu.WalkM.on (by rfl)
                        · rintro V hV
                          have hc0 := HI2.out V hV
                          have hc1 := HCE.out V hV
                          go_wp2_with fail
                          refine ⟨rfl, ?_, rfl⟩
                          try simp only [Act.put, List.setIfInBounds_toArray, List.set_cons_succ, List.set_cons_zero]
                          rfl
                        simp only [Act.put, List.setIfInBounds_toArray, List.set_cons_succ, List.set_cons_zero])
            refine Pu.WalkM.make (by rfl) ?_
            rintro V rfl
            go_wp2_with (go_at_call 89; refine (CH.out _).mono ?_; rintro e W1 ⟨⟨v1, rfl, hv1⟩, hb1⟩)
            have hv2 : BytesAt W1 w.drew.heap.size W1.heap.size v1 (headB G H) := by
              unfold BytesAt
              rw [headB_len]
              exact Sl.of_own hv1
            obtain ⟨A1, c1, rfl, -⟩ := hv2.form
            have hx := string_of W1 hv2
            generalize (headB G H).length = n1 at *
            refine ⟨rfl, .slice A1 n1 c1, (fun V => V = W1), (fun V => V = W1), ?_, rfl, (fun _ h => h), (.inr (fun V h => by rw [h]; exact hdr.trans (hb1.mono hdr.size))), ?_⟩
            · try simp only [Act.put, List.setIfInBounds_toArray, List.set_cons_succ, List.set_cons_zero]
              try rfl
            simp only [Act.put, List.setIfInBounds_toArray, List.set_cons_succ, List.set_cons_zero]
            have hB1 := hdr.trans (hb1.mono hdr.size)
            rcases HQ.out with ⟨q1, q2⟩ | ⟨q1, q2⟩
            · rw [q1, ← HS2.out] at hx
              have HR := Lib.hid q2
              clear q1 q2 HQ HI2
              iterate 3 (apply Pu.WalkM.on (by rfl)
                         · rintro V hV
                           rw [hV]
                           go_wp2_with fail
                           refine ⟨rfl, ?_, rfl⟩
                           try simp only [Act.put, List.setIfInBounds_toArray, List.set_cons_succ, List.set_cons_zero]
                           rfl
                         simp only [Act.put, List.setIfInBounds_toArray, List.set_cons_succ, List.set_cons_zero])
              refine Pu.WalkM.nil ?_
              rintro V rfl
              go_wp2
              have hce := HCE.out V hB1
              clear hx CH hv1 hv2 hb1 HCE hdr
              have HB1 := Lib.hid hB1
              clear hB1
              go_region
              go_wp2
              go_ret2
              rw [HR.out]
              exact ⟨rfl, HB1.out.drew⟩
            · obtain ⟨s1, hs1⟩ : ∃ s1 : ByteArray, s1 = ⟨(headB G H).toArray⟩ := ⟨_, rfl⟩
              rw [← hs1] at hx
              have hne : ¬ s1.toList = s2.toList := by
                rw [ByteArray.toList_eq, ByteArray.toList_eq, hs1, HS2.out]
                exact q1
              have hnb : (s1.toList == s2.toList) = false := by simpa using hne
              have HR := Lib.hid q2
              clear q1 q2 HQ HI2 hs1 hne
              iterate 3 (apply Pu.WalkM.on (by rfl)
                         · rintro V hV
                           rw [hV]
                           go_wp2_with fail
                           refine ⟨rfl, ?_, rfl⟩
                           try simp only [Act.put, List.setIfInBounds_toArray, List.set_cons_succ, List.set_cons_zero]
                           rfl
                         simp only [Act.put, List.setIfInBounds_toArray, List.set_cons_succ, List.set_cons_zero])
              refine Pu.WalkM.nil ?_
              rintro V rfl
              go_wp2
              clear hx hnb CH HCE hv1 hv2 hb1
              go_ret2
              rw [HR.out]
              exact ⟨rfl, hB1⟩
end Wa
end Go.Proofs.Yteiniahikhiadaa

namespace Go.Proofs.Yteiniahikhiadaa
open Go.RowKit Go.Maps
namespace Wa
open Ce Se
/-- sectors in a row -/
def BlksAt (w : World) (lb off : Nat) (bs : List Blk) : Prop := lb < w.heap.size ∧ ∀ k (h : k < bs.length) (j : Nat), j < 64 → w.cell? ⟨lb, off + k * 64 + j, none⟩ = some (.int .u8 ((bs[k].getD j 0).toNat : Int))
theorem BlksAt.same {w w' : World} {lb off : Nat} {bs : List Blk} (h : BlksAt w lb off bs) (hb : Below w.heap.size w w') : BlksAt w' lb off bs :=
  ⟨Nat.lt_of_lt_of_le h.1 hb.size, fun k hk j hj => (hb.cell (p := ⟨lb, off + k * 64 + j, none⟩) h.1).trans (h.2 k hk j hj)⟩
theorem BlksAt.bytes {w : World} {lb off c k n : Nat} {bs : List Blk} (h : BlksAt w lb off bs) (hk : k < bs.length) (h64 : bs[k].length = 64) (hn : n ≤ 64) (hc : n ≤ c) (hcm : c ≤ maxLen) : BytesAt w 0 w.heap.size (.slice (some ⟨lb, off + k * 64, none⟩) n c) (bs[k].take n) := by
  have hl : (bs[k].take n).length = n := by rw [List.length_take, h64]; omega
  unfold BytesAt
  rw [hl]
  refine ⟨by rw [bytesV_length, hl]; omega, _, _, rfl, hc, hcm, fun _ => ⟨lb, off + k * 64, rfl, Nat.zero_le _, h.1, fun j hj => ?_⟩⟩
  rw [h.2 k hk j (by omega)]
  have h1 : j < (bytesV (bs[k].take n)).length := by rw [bytesV_length, hl]; omega
  have h2 : j < bs[k].length := by omega
  unfold bytesV
  rw [List.getElem?_map, List.getElem?_take, if_pos (by omega), List.getElem?_eq_getElem h2, List.getD_eq_getElem?_getD, List.getElem?_eq_getElem h2]
  rfl
set_option maxRecDepth 100000 in
set_option maxHeartbeats 4000000 in
theorem rstream_calls (bs : List Blk) (lb off c : Nat) (w : World) (h : BlksAt w lb off bs) (h64 : ∀ k (h : k < bs.length), bs[k].length = 64) (hc1 : bs.length ≤ c) (hc2 : c ≤ maxLen) (hm : bs.length ≤ 8191) :
    Calls Try.prog 62 #[.slice (some ⟨lb, off, none⟩) bs.length c] w fun e w' => (∃ v, e = .returned v ∧ w'.ownsRow w.heap.size 5 1 v (strmOf bs).length (bytesV (strmOf bs))) ∧ Below w.heap.size w w' := by
  obtain ⟨i0, hi0, hz0⟩ := Option.map_eq_some_iff.1 byteInfo
  simp only [Prod.mk.injEq] at hz0
  obtain ⟨hz0, hz1, hz2⟩ := hz0
  obtain ⟨S, hS⟩ : ∃ S, S = strmOf bs := ⟨_, rfl⟩
  have HS := Lib.hid hS
  have HH := Lib.hid h
  have H64 := Lib.hid h64
  rw [← hS]
  unfold maxLen at hc2
  clear hS h h64
  go_enter Try.func62, Try.ntmps62
  go_wp2
  go_loopw [3, 4, 5] (fun ov i _ wr => ∃ (k : Nat) (O : List UInt8), k ≤ bs.length ∧ i = .int .i64 k ∧ wr.ownsRow w.heap.size 5 1 ov O.length (bytesV O) ∧ O ++ strmOf (bs.drop k) = S ∧ O.length ≤ 63 * k ∧ Below w.heap.size w wr) (fun _ i _ _ => bs.length - (intOf i).toNat)
  case atStart => exact ⟨0, [], by omega, rfl, World.ownsRow_nil _ _ _ _, by rw [HS.out]; rfl, by simp, Below.refl _ _⟩
  case round =>
    obtain ⟨k, O, hk, rfl, hown, hO, hOl, hB⟩ := hrel
    obtain ⟨Ao, co, rfl, -⟩ := (Sl.of_own hown).at_
    have HO := Lib.hid hO
    clear hO
    by_cases hlt : k < bs.length
    · have hd : decide ((k : Int) < (bs.length : Int)) = true := by simp; omega
      have hW := HH.out.same hB
      have hcell := hW.2 k hlt 63 (by omega)
      have hk6 := H64.out k hlt
      have hg : bs[k]? = some bs[k] := List.getElem?_eq_getElem hlt
      have HST := Lib.hid (strm_go HO.out hg (n := (bs[k].getD 63 0).toNat) rfl)
      have hq : (bs[k].getD 63 0).toNat < 256 := (bs[k].getD 63 0).toNat_lt
      have HBY := Lib.hid (fun (hn : (bs[k].getD 63 0).toNat ≤ 64) => hW.bytes (n := (bs[k].getD 63 0).toNat) (c := 64) hlt hk6 hn (by omega) (by unfold maxLen; omega))
      have HTL := Lib.hid (fun (hn : (bs[k].getD 63 0).toNat ≤ 64) => show (bs[k].take (bs[k].getD 63 0).toNat).length = (bs[k].getD 63 0).toNat by rw [List.length_take, hk6]; omega)
      have hsB := hB.size
      generalize (bs[k].getD 63 0).toNat = n at *
      generalize bs[k] = bk at *
      clear hg hk6 hW
      by_cases hbig : 63 < n
      · have hd2 : decide ((n : Int) > 63) = true := by simp; omega
        have hE := HST.out.1 hbig
        subst hE
        clear HST HBY HTL
        go_wp2
        go_ret
        exact ⟨⟨_, rfl, hown⟩, hB⟩
      · have hd2 : decide ((n : Int) > 63) = false := by simp; omega
        have hby := HBY.out (by omega)
        have htl := HTL.out (by omega)
        generalize bk.take n = T at *
        have hcat : bytesV (O ++ T) = bytesV O ++ bytesV T := by simp [bytesV]
        have hby2 : Sl wr 0 wr.heap.size 1 (.slice (some ⟨lb, off + k * 64, none⟩) n 64) n (bytesV T) := by
          have := hby
          unfold BytesAt at this
          rwa [htl] at this
        have HCAT := Lib.hid hcat
        have HTL2 := Lib.hid htl
        clear hby hcat htl HBY HTL
        have hal : Try.prog.arrayLen 102 = 64 := by kernel_rfl
        have hsa : (Instr.sliceAt 102 (.pointer (some ⟨lb, off + k * 64, none⟩)) none (some (.int .i64 n)) none).run Try.prog wr = .ok (.slice (some ⟨lb, off + k * 64, none⟩) n 64) wr := by
          have h1 := run_sliceAt_array_h (P := Try.prog) wr 102 ⟨lb, off + k * 64, none⟩ (by kernel_rfl) .i64 (n : Int) (by omega) (by rw [hal]; omega)
          rw [h1, show (sizeOf (Try.prog.elem 102)).run Try.prog wr = .ok 1 wr by kernel_rfl]
          simp [Result.andThen, slicedAt, hal, Addr.add_mid]
        by_cases hend : n < 63
        · have hd3 : decide ((n : Int) < 63) = true := by simp; omega
          have HE := Lib.hid (HST.out.2.1 hend)
          clear HST
          go_wp2_with (at_builtin; refine wpList_append_sl _ rfl (.tmp 21) (.tmp 26) _ rfl w.heap.size 5 i0 _ 1 1 Try.underlying34 hi0 hz0 hz1 hz2 rfl (by omega) _ O.length (bytesV O) rfl hown 0 wr.heap.size _ n (bytesV T) rfl hby2 (bytesV_one _) (by unfold maxLen; omega) (by omega) (by omega) ?_; intro v1 W1 hv1 hg1 hat1; have hB1 := hB.grown hg1 hB.size (fun r e => by have := (hown.lt r e).1; exact this); clear hg1 hat1 hB hown)
          go_ret
          refine ⟨⟨_, rfl, ?_⟩, hB1⟩
          rw [← HE.out, HCAT.out, List.length_append, HTL2.out]
          exact hv1
        · have hd3 : decide ((n : Int) < 63) = false := by simp; omega
          have HE := Lib.hid (HST.out.2.2 (by omega))
          clear HST
          go_wp2_with (at_builtin; refine wpList_append_sl _ rfl (.tmp 21) (.tmp 26) _ rfl w.heap.size 5 i0 _ 1 1 Try.underlying34 hi0 hz0 hz1 hz2 rfl (by omega) _ O.length (bytesV O) rfl hown 0 wr.heap.size _ n (bytesV T) rfl hby2 (bytesV_one _) (by unfold maxLen; omega) (by omega) (by omega) ?_; intro v1 W1 hv1 hg1 hat1; have hB1 := hB.grown hg1 hB.size (fun r e => by have := (hown.lt r e).1; exact this); clear hg1 hat1 hB hown)
          go_roundw
          case rel =>
            refine ⟨k + 1, O ++ T, by omega, by go_num, ?_, HE.out, by rw [List.length_append, HTL2.out]; omega, hB1⟩
            rw [HCAT.out, List.length_append, HTL2.out]
            exact hv1
          case measure => simp [intOf]; omega
    · obtain rfl : k = bs.length := by omega
      have hd : decide ((bs.length : Int) < (bs.length : Int)) = false := by simp
      have hE : O = S := by
        have := HO.out
        rw [List.drop_length] at this
        simpa [strmOf] using this
      subst hE
      go_wp2
      go_ret
      exact ⟨⟨_, rfl, hown⟩, hB⟩
end Wa
end Go.Proofs.Yteiniahikhiadaa

namespace Go.Proofs.Yteiniahikhiadaa
open Go.RowKit Go.Maps
namespace Wa
open Ce Se
theorem be_three (r : List UInt8) (h : 3 ≤ r.length) : be (r.take 3) = (r.getD 0 0).toNat * 65536 + (r.getD 1 0).toNat * 256 + (r.getD 2 0).toNat := by
  obtain ⟨a, b, c, t, rfl⟩ : ∃ a b c t, r = a :: b :: c :: t := by
    match r, h with
    | a :: b :: c :: t, _ => exact ⟨a, b, c, t, rfl⟩
  rw [show (a :: b :: c :: t).take 3 = (([] ++ [a]) ++ [b]) ++ [c] from rfl, be_snoc, be_snoc, be_snoc]
  simp only [be, List.foldl_nil, List.getD_cons_zero, List.getD_cons_succ]
  omega
set_option maxRecDepth 100000 in
set_option maxHeartbeats 8000000 in
theorem rentries_calls (l : List UInt8) (v : Value) (w : World) (lo hi : Nat) (hI : BytesAt w lo hi v l) (hhi : hi ≤ w.heap.size) (hl : l.length ≤ 600000) :
    Calls Try.prog 61 #[v] w fun e w' => (∃ ev vs, e = .returned ev ∧ w'.ownsRow w.heap.size 34 1 ev vs.length vs ∧ Ents w' (fun i => lo ≤ i ∧ i < hi) vs (entP l)) ∧ Below w.heap.size w w' := by
  obtain ⟨i0, hi0, hz0⟩ := Option.map_eq_some_iff.1 slice_info
  simp only [Prod.mk.injEq] at hz0
  obtain ⟨hz0, hz1, hz2⟩ := hz0
  obtain ⟨A0, c0, rfl, -⟩ := hI.form
  go_enter Try.func61, Try.ntmps61
  go_wp2
  go_loopw [0, 3, 4] (fun bv o _ wr => ∃ (r : List UInt8) (es : List (List UInt8)) (vs : List Value), BytesAt wr lo hi bv r ∧ r.length ≤ l.length ∧ es ++ entP r = entP l ∧ wr.ownsRow w.heap.size 34 1 o vs.length vs ∧ Ents wr (fun i => lo ≤ i ∧ i < hi) vs es ∧ vs.length + r.length ≤ 600000 ∧ Below w.heap.size w wr) (fun bv _ _ _ => lenV bv)
  case atStart => exact ⟨l, [], [], hI, Nat.le_refl _, rfl, World.ownsRow_nil _ _ _ _, trivial, by simpa using hl, Below.refl _ _⟩
  case round =>
    obtain ⟨r, es, vs, hb, hrl, hes, hown, hE, hvl, hB⟩ := hrel
    obtain ⟨A, c, rfl, hc1, hc2⟩ := hb.form
    unfold maxLen at hc2
    obtain ⟨Ao, co, rfl, -⟩ := (Sl.of_own hown).at_
    by_cases h3 : r.length < 3
    · have hd : decide ((r.length : Int) ≥ 3) = false := by simp; omega
      rw [entP_short h3, List.append_nil] at hes
      rw [hes] at hE
      go_wp2
      go_ret
      exact ⟨⟨_, vs, rfl, hown, hE⟩, hB⟩
    have hd : decide ((r.length : Int) ≥ 3) = true := by simp; omega
    have HG := Lib.hid (fun k (hk : k < r.length) => hb.cellAt (j := k) hk)
    obtain ⟨p, o, hA, -⟩ := HG.out 0 (by omega)
    subst hA
    have HC := Lib.hid (fun k (hk : k < r.length) => show wr.cell? ⟨p, o + k, none⟩ = some (.int .u8 ((r.getD k 0).toNat : Int)) by
      obtain ⟨p', o', e, h1, h2, h3⟩ := HG.out k hk
      cases e
      rw [h3, List.getD_eq_getElem?_getD, List.getElem?_eq_getElem hk]
      rfl)
    have g0 := HC.out 0 (by omega)
    have g1 := HC.out 1 (by omega)
    have g2 := HC.out 2 (by omega)
    rw [Nat.add_zero] at g0
    have HBE := Lib.hid (be_three r (by omega))
    have h8 : (r.getD 0 0).toNat < 256 := (r.getD 0 0).toNat_lt
    have h9 : (r.getD 1 0).toNat < 256 := (r.getD 1 0).toNat_lt
    have h10 : (r.getD 2 0).toNat < 256 := (r.getD 2 0).toNat_lt
    have HEM := Lib.hid (entP_more (b := r) h3)
    have HEB := Lib.hid (entP_bad (b := r) h3)
    generalize (r.getD 0 0).toNat = x0 at *
    generalize (r.getD 1 0).toNat = x1 at *
    generalize (r.getD 2 0).toNat = x2 at *
    have HB0 := Lib.hid hb
    have HES := Lib.hid hes
    have HE := Lib.hid hE
    have HOW := Lib.hid hown
    have HBW := Lib.hid hB
    clear hb hes hE hown hB HG HC
    go_wp2_with fail
    go_region
    rw [show ((x0 : Int) * 65536 + (x1 : Int) * 256 + (x2 : Int)) = ((x0 * 65536 + x1 * 256 + x2 : Nat) : Int) by omega]
    rw [HBE.out] at HEM HEB
    have hn24 : x0 * 65536 + x1 * 256 + x2 < 16777216 := by omega
    generalize x0 * 65536 + x1 * 256 + x2 = n at *
    have hdr := (Below.refl wr.heap.size wr).drew
    have hlw := HBW.out.size
    have HB1 := Lib.hid ((HB0.out).below (hdr.mono (show hi ≤ wr.heap.size by omega)))
    have HE1 := Lib.hid (HE.out.same hdr)
    have hown := ownsRow_below HOW.out hdr
    have hB := HBW.out.trans (hdr.mono hlw)
    clear HB0 HE HOW HBW hdr g0 g1 g2 hlw
    generalize wr.drew = W0 at *
    have hes := HES.out
    by_cases hbad : n > 65536 ∨ n > (r.drop 3).length
    · rw [HEB.out hbad, List.append_nil] at hes
      have hE := HE1.out
      rw [hes] at hE
      rw [List.length_drop] at hbad
      have hq : decide ((n : Int) > 65536) = true ∨ (decide ((n : Int) > 65536) = false ∧ decide ((n : Int) > (r.length : Int) - 3) = true) := by
        by_cases h1 : n > 65536
        · exact .inl (by simp; omega)
        · exact .inr ⟨by simp; omega, by simp; omega⟩
      clear hbad HEM HEB hes HES
      rcases hq with q1 | ⟨q1, q2⟩
      all_goals
        go_wp2
        go_ret
        exact ⟨⟨_, vs, rfl, hown, hE⟩, hB⟩
    · rw [HEM.out hbad] at hes
      rw [List.length_drop] at hbad
      have q1 : decide ((n : Int) > 65536) = false := by simp; omega
      have q2 : decide ((n : Int) > (r.length : Int) - 3) = false := by simp; omega
      have HES2 := Lib.hid hes
      have HN3 := Lib.hid (upto (onFrom HB1.out (k := 3) (by omega)) (k := n) (by rw [List.length_drop]; omega))
      have HR3 := Lib.hid (onFrom HB1.out (k := 3 + n) (by omega))
      have k1 : (3 : Int) ≤ 3 + (n : Int) := by omega
      have k2 : (3 : Int) + (n : Int) ≤ (r.length : Int) := by omega
      have k3 : (r.length : Int) ≤ (c : Int) := by omega
      have k4 : (3 : Int) + (n : Int) ≤ (c : Int) := by omega
      clear HEM HEB hes HES
      have HN3' := HN3.out
      have HR3' := HR3.out
      clear HN3 HR3
      by_cases hcc : c = 3
      · subst hcc
        rw [if_pos rfl, Nat.sub_self] at HN3'
        have hn0 : n = 0 := by omega
        rw [if_pos (by omega), show 3 - (3 + n) = 0 by omega] at HR3'
        rw [show Value.slice (some ⟨p, o, none⟩) (r.length - (3 + n)) 0 = .slice (some ⟨p, o, none⟩) 0 0 by rw [show r.length - (3 + n) = 0 by omega]] at HR3'
        rw [show Value.slice (some ⟨p, o, none⟩) n 0 = .slice (some ⟨p, o, none⟩) 0 0 by rw [hn0]] at HN3'
        have HNEW := Lib.hid (show EntAt W0 (fun i => lo ≤ i ∧ i < hi) (.slice (some ⟨p, o, none⟩) 0 0) ((r.drop 3).take n) from ⟨lo, hi, HN3', by have := hB.size; omega, fun i a b => ⟨a, b⟩⟩)
        have HREST := Lib.hid HR3'
        clear HN3' HR3'
        have hsB := hB.size
        go_wp2_with (at_builtin; refine wpList_append_sl _ rfl (.tmp 34) (.tmp 39) _ rfl w.heap.size 34 i0 _ 1 24 Try.underlying22 hi0 hz0 hz1 hz2 rfl (by omega) _ vs.length vs rfl (hown.alloc _) W0.heap.size (W0.heap.size + 1) _ 1 [.slice (some ⟨p, o, none⟩) 0 0] rfl (Sl.new W0 #[.slice (some ⟨p, o, none⟩) 0 0] 34 (n := 1) rfl (by unfold maxLen; omega)) (by simp [Value.oneCell']) (by unfold maxLen; omega) (by omega) (by simp; omega) ?_; intro v1 w5 hv1 hg1 hat1)
        have hgo := (World.grownBy_alloc W0 (.cells #[.slice (some ⟨p, o, none⟩) 0 0] 34) (Value.slice Ao vs.length co).ownBlock).trans hg1
        have hB5 := hB.grown hgo hB.size (fun g hg => (hown.lt g hg).1)
        have hK5 : Kept (fun i => lo ≤ i ∧ i < hi) W0 w5 := Kept.of_grown hgo fun i hi2 => ⟨by omega, fun e => by have := (hown.lt i e.symm).1; omega⟩
        go_roundw
        case rel => exact ⟨r.drop (3 + n), es ++ [(r.drop 3).take n], vs ++ [.slice (some ⟨p, o, none⟩) 0 0], hK5.sl HREST.out (fun i a b => ⟨a, b⟩), by rw [List.length_drop]; omega, by rw [List.append_assoc, ← List.drop_drop]; exact HES2.out, by rw [List.length_append]; exact hv1, (HE1.out.snoc HNEW.out).kept hK5, by rw [List.length_append, List.length_drop]; simp; omega, hB5⟩
        case measure => simp [lenV]; omega
      · rw [if_neg hcc] at HN3'
        by_cases hcn : c = 3 + n
        · rw [if_pos hcn, show c - (3 + n) = 3 + n - (3 + n) by omega] at HR3'
          rw [show c - 3 = n by omega] at HN3'
          have HNEW := Lib.hid (show EntAt W0 (fun i => lo ≤ i ∧ i < hi) (.slice (some ⟨p, o + 3, none⟩) n n) ((r.drop 3).take n) from ⟨lo, hi, HN3', by have := hB.size; omega, fun i a b => ⟨a, b⟩⟩)
          have HREST := Lib.hid HR3'
          clear HN3' HR3'
          have hsB := hB.size
          go_wp2_with (at_builtin; refine wpList_append_sl _ rfl (.tmp 34) (.tmp 39) _ rfl w.heap.size 34 i0 _ 1 24 Try.underlying22 hi0 hz0 hz1 hz2 rfl (by omega) _ vs.length vs rfl (hown.alloc _) W0.heap.size (W0.heap.size + 1) _ 1 [.slice (some ⟨p, o + 3, none⟩) n n] rfl (Sl.new W0 #[.slice (some ⟨p, o + 3, none⟩) n n] 34 (n := 1) rfl (by unfold maxLen; omega)) (by simp [Value.oneCell']) (by unfold maxLen; omega) (by omega) (by simp; omega) ?_; intro v1 w5 hv1 hg1 hat1)
          have hgo := (World.grownBy_alloc W0 (.cells #[.slice (some ⟨p, o + 3, none⟩) n n] 34) (Value.slice Ao vs.length co).ownBlock).trans hg1
          have hB5 := hB.grown hgo hB.size (fun g hg => (hown.lt g hg).1)
          have hK5 : Kept (fun i => lo ≤ i ∧ i < hi) W0 w5 := Kept.of_grown hgo fun i hi2 => ⟨by omega, fun e => by have := (hown.lt i e.symm).1; omega⟩
          go_roundw
          case rel => exact ⟨r.drop (3 + n), es ++ [(r.drop 3).take n], vs ++ [.slice (some ⟨p, o + 3, none⟩) n n], hK5.sl HREST.out (fun i a b => ⟨a, b⟩), by rw [List.length_drop]; omega, by rw [List.append_assoc, ← List.drop_drop]; exact HES2.out, by rw [List.length_append]; exact hv1, (HE1.out.snoc HNEW.out).kept hK5, by rw [List.length_append, List.length_drop]; simp; omega, hB5⟩
          case measure => simp [lenV]; omega
        · rw [if_neg hcn] at HR3'
          have HNEW := Lib.hid (show EntAt W0 (fun i => lo ≤ i ∧ i < hi) (.slice (some ⟨p, o + 3, none⟩) n (c - 3)) ((r.drop 3).take n) from ⟨lo, hi, HN3', by have := hB.size; omega, fun i a b => ⟨a, b⟩⟩)
          have HREST := Lib.hid HR3'
          clear HN3' HR3'
          have hsB := hB.size
          go_wp2_with (at_builtin; refine wpList_append_sl _ rfl (.tmp 34) (.tmp 39) _ rfl w.heap.size 34 i0 _ 1 24 Try.underlying22 hi0 hz0 hz1 hz2 rfl (by omega) _ vs.length vs rfl (hown.alloc _) W0.heap.size (W0.heap.size + 1) _ 1 [.slice (some ⟨p, o + 3, none⟩) n (c - 3)] rfl (Sl.new W0 #[.slice (some ⟨p, o + 3, none⟩) n (c - 3)] 34 (n := 1) rfl (by unfold maxLen; omega)) (by simp [Value.oneCell']) (by unfold maxLen; omega) (by omega) (by simp; omega) ?_; intro v1 w5 hv1 hg1 hat1)
          have hgo := (World.grownBy_alloc W0 (.cells #[.slice (some ⟨p, o + 3, none⟩) n (c - 3)] 34) (Value.slice Ao vs.length co).ownBlock).trans hg1
          have hB5 := hB.grown hgo hB.size (fun g hg => (hown.lt g hg).1)
          have hK5 : Kept (fun i => lo ≤ i ∧ i < hi) W0 w5 := Kept.of_grown hgo fun i hi2 => ⟨by omega, fun e => by have := (hown.lt i e.symm).1; omega⟩
          go_roundw
          case rel => exact ⟨r.drop (3 + n), es ++ [(r.drop 3).take n], vs ++ [.slice (some ⟨p, o + 3, none⟩) n (c - 3)], hK5.sl HREST.out (fun i a b => ⟨a, b⟩), by rw [List.length_drop]; omega, by rw [List.append_assoc, ← List.drop_drop]; exact HES2.out, by rw [List.length_append]; exact hv1, (HE1.out.snoc HNEW.out).kept hK5, by rw [List.length_append, List.length_drop]; simp; omega, hB5⟩
          case measure => simp [lenV]; omega
end Wa
end Go.Proofs.Yteiniahikhiadaa

namespace Go.Proofs.Yteiniahikhiadaa
open Go.RowKit Go.Maps
namespace Wa
open Ce Se It
/-- a list of entries in memory -/
def ListsAt (w : World) (v : Value) (es : List (List UInt8)) : Prop := ∃ vals, Sl w 0 w.heap.size 1 v es.length vals ∧ Ents w (fun i => i < w.heap.size) vals es
theorem ListsAt.same {w w' : World} {v : Value} {es : List (List UInt8)} (h : ListsAt w v es) (hb : Below w.heap.size w w') : ListsAt w' v es := by
  obtain ⟨vals, h1, h2⟩ := h
  exact ⟨vals, (Sl.below h1 hb).wide (Nat.le_refl _) hb.size, (h2.same hb).mono fun i hi => by have := hb.size; omega⟩
theorem ListsAt.form {w : World} {v : Value} {es : List (List UInt8)} (h : ListsAt w v es) : ∃ A c, v = .slice A es.length c ∧ es.length ≤ c ∧ c ≤ maxLen := by
  obtain ⟨vals, h1, h2⟩ := h
  obtain ⟨A, c, e, h3, h4, -⟩ := h1.at_
  exact ⟨A, c, e, h3, h4⟩
theorem ListsAt.cellAt {w : World} {A : Option Addr} {n c k : Nat} {es : List (List UInt8)} (h : ListsAt w (.slice A n c) es) (hk : k < es.length) :
    ∃ b o v, A = some ⟨b, o, none⟩ ∧ b < w.heap.size ∧ w.cell? ⟨b, o + k, none⟩ = some v ∧ BytesAt w 0 w.heap.size v es[k] := by
  obtain ⟨vals, h1, h2⟩ := h
  have hn : n = es.length := by
    obtain ⟨A', c', e, -⟩ := h1.at_
    cases e; rfl
  subst hn
  obtain ⟨v, hv, hE⟩ := h2.get k hk
  obtain ⟨b, o, e, -, hb, hc⟩ := slAt h1 hk hv
  exact ⟨b, o, v, e, hb, hc, hE.bytes⟩
def longE (l : List UInt8) : Bool := decide (65536 < l.length)
theorem long_calls (l : List UInt8) (v : Value) (w : World) (h : BytesAt w 0 w.heap.size v l) :
    Calls Try.prog 57 #[v] w fun e w' => e = .returned (.bool (longE l)) ∧ w = w' := by
  obtain ⟨A, c, rfl, -⟩ := h.form
  clear h
  go_enter Try.func57, Try.ntmps57
  go_wp2
  go_ret
  have : decide ((65536 : Int) < (l.length : Int)) = longE l := by unfold longE; rw [decide_eq_decide]; omega
  exact ⟨by rw [← this]; rfl, rfl⟩
set_option maxRecDepth 100000 in
set_option maxHeartbeats 1000000 in
theorem indexl_calls (L : List (List UInt8)) (v : Value) (w : World) (hv : ListsAt w v L) :
    Calls Try.prog 88 #[v, .func (.func 57) #[] #[]] w fun e w' => (∃ r : Int, e = .returned (.int .i64 r) ∧ (0 ≤ r ↔ L.any longE = true)) ∧ w = w' := by
  have hv0 := Lib.hid hv
  obtain ⟨A, c, rfl, hc1, hc2⟩ := hv.form
  clear hv
  unfold maxLen at hc2
  go_enter Try.func88, Try.ntmps88
  go_wp2
  go_loop [8] (fun i => ∃ k : Nat, k ≤ L.length ∧ i = .int .i64 k ∧ ∀ j (h : j < L.length), j < k → longE L[j] = false) (fun i => L.length - (intOf i).toNat)
  case atStart => exact ⟨0, by omega, rfl, fun j _ hj => by omega⟩
  case round =>
    obtain ⟨k, hk, rfl, hN⟩ := hrel
    have HN := Lib.hid hN
    clear hN
    by_cases hlt : k < L.length
    · obtain ⟨b, o, x, rfl, hbB, hck, hx⟩ := hv0.out.cellAt hlt
      obtain ⟨A1, c1, rfl, -⟩ := hx.form
      have cN := Lib.hid (long_calls L[k] _ _ hx)
      clear hx
      generalize ho : longE L[k] = ok at cN
      have HO := Lib.hid ho
      clear ho
      go_wp2_with fail
      refine cN.out.mono ?_
      rintro e w' ⟨rfl, rfl⟩
      cases ok with
      | false =>
        go_wp2_with fail
        go_round
        case rel => exact ⟨k + 1, by omega, by go_num, fun j h hj => by
          rcases Nat.lt_or_ge j k with h1 | h1
          · exact HN.out j h h1
          · obtain rfl : j = k := by omega
            exact HO.out⟩
        case measure => simp [intOf]; omega
      | true =>
        go_wp2_with fail
        go_ret
        exact ⟨⟨k, rfl, ⟨fun _ => List.any_eq_true.2 ⟨_, List.getElem_mem hlt, HO.out⟩, fun _ => by omega⟩⟩, rfl⟩
    · obtain rfl : k = L.length := by omega
      go_wp2
      go_ret
      refine ⟨⟨-1, rfl, Iff.intro (fun h => by omega) (fun h => ?_)⟩, rfl⟩
      obtain ⟨x, hx, hx2⟩ := h
      obtain ⟨j, hj, rfl⟩ := List.getElem_of_mem hx
      rw [HN.out j hj hj] at hx2
      cases hx2
set_option maxHeartbeats 1000000 in
theorem containsl_calls (L : List (List UInt8)) (v : Value) (w : World) (hv : ListsAt w v L) :
    Calls Try.prog 56 #[v, .func (.func 57) #[] #[]] w fun e w' => e = .returned (.bool (L.any longE)) ∧ w = w' := by
  have cI := Lib.hid (indexl_calls L v w hv)
  obtain ⟨A, c, rfl, hc1, hc2⟩ := hv.form
  clear hv
  go_enter Try.func56, Try.ntmps56
  go_wp2_with fail
  refine cI.out.mono ?_
  rintro e w' ⟨⟨r, rfl, hr⟩, rfl⟩
  have HR := Lib.hid (show L.any longE = decide (r ≥ 0) by
    rw [Bool.eq_iff_iff, decide_eq_true_eq, ge_iff_le, hr])
  clear hr
  go_wp2
  go_ret
  exact ⟨by rw [HR.out]; rfl, rfl⟩
theorem any_long (es : List (List UInt8)) : es.any longE = es.any (fun b => decide (b.length > 65536)) := rfl
theorem strm_split (es : List (List UInt8)) (k : Nat) : (strm es).length = (strm (es.take k)).length + (strm (es.drop k)).length := by
  have : strm es = strm (es.take k) ++ strm (es.drop k) := by
    unfold strm
    rw [← List.flatMap_append, List.take_append_drop]
  rw [this, List.length_append]
theorem strm_take (es : List (List UInt8)) (k : Nat) (h : k < es.length) : (strm (es.take (k + 1))).length = (strm (es.take k)).length + (3 + es[k].length) := by
  rw [List.take_succ_eq_append_getElem h, strm_snoc, List.length_append, encE_len]
section
variable {w w' : World} {base b d sb mb : Nat} {D D' : Dv} {X Y : Nat → Prop} {L : Lg}
theorem LgAt.lg_lt (h : LgAt w base b d sb mb X Y D L) : b < w.heap.size := (h.y b (h.xy b h.x.1)).2
set_option maxRecDepth 100000 in
set_option maxHeartbeats 4000000 in
theorem compact_calls (h : LgAt w base b d sb mb X Y D L) {es : List (List UInt8)} {vals : List Value} {xv : Value} (hx : Sl w 0 base 1 xv es.length vals) (hE : Ents w (fun i => i < base) vals es) (hbase : base ≤ w.heap.size) :
    Calls Try.prog 23 #[.pointer (some ⟨b, 0, none⟩), xv] w fun e w' => e = .returned (.int .i64 (compactG writeD flushD D L (szD D) es).2.2) ∧
      ∃ X' Y', LgAt w' base b d sb mb X' Y' (compactG writeD flushD D L (szD D) es).1 (compactG writeD flushD D L (szD D) es).2.1 ∧ Grew w w' X Y X' Y' := by
  have hLA : ListsAt w xv es := ⟨vals, hx.wide (Nat.le_refl _) hbase, hE.mono fun i hi => by omega⟩
  have cC := Lib.hid (containsl_calls es xv w hLA)
  obtain ⟨Ax, cx, rfl, hcx1, hcx2⟩ := hLA.form
  unfold maxLen at hcx2
  obtain ⟨ev, tv, vs, l1, -⟩ := h.lg
  have hlk := h.look
  have h4 := h.len
  have y7 := l1.cell (j := 7) (v := .bool L.fin) rfl
  have CS := Lib.hid (hlk.size h4)
  have hz : szD D ≤ 8191 := by have := h.dv.len; unfold szD; omega
  cases hany : es.any longE with
  | true =>
    have e : compactG writeD flushD D L (szD D) es = (D, L, 3) := by unfold compactG; rw [← any_long, if_pos hany]
    rw [e]
    rw [hany] at cC
    have HH := Lib.hid h
    clear h hx hE hLA l1 hlk hany e y7 CS
    go_enter Try.func23, Try.ntmps23
    go_wp2_with fail
    refine cC.out.mono ?_
    rintro e w' ⟨rfl, rfl⟩
    go_wp2
    go_ret
    exact ⟨rfl, X, Y, HH.out, Grew.of_kept (Kept.refl _ _)⟩
  | false =>
    have hlong : ∀ e ∈ es, e.length ≤ 65536 := fun e he => by
      have := List.any_eq_false.1 hany e he
      unfold longE at this
      simp only [decide_eq_true_eq] at this
      omega
    rw [hany] at cC
    have HH := Lib.hid h
    have HLA := Lib.hid hLA
    have HX := Lib.hid hx
    have HE := Lib.hid hE
    have HLO := Lib.hid hlong
    have HAN := Lib.hid hany
    obtain ⟨sz, hsz⟩ : ∃ sz, sz = szD D := ⟨_, rfl⟩
    rw [← hsz] at hz CS
    have HSZ := Lib.hid hsz
    clear h hx hE hLA l1 hlk hany hlong hsz
    go_enter Try.func23, Try.ntmps23
    go_wp2_with fail
    refine cC.out.mono ?_
    rintro e w' ⟨rfl, rfl⟩
    go_wp2_with fail
    refine CS.out.mono ?_
    rintro e w' ⟨rfl, rfl⟩
    go_wp2_with fail
    have hmx63 : 63 * sz ≤ 600000 := by omega
    have hb0 : b < w.heap.size := HH.out.lg_lt
    go_loop [5, 17] (fun r i => ∃ (k m : Nat), k ≤ es.length ∧ i = .int .i64 k ∧ m = (strm (es.take k)).length ∧ m ≤ 63 * sz ∧ r = .int .i64 (63 * (sz : Int) - (m : Int))) (fun _ i => es.length - (intOf i).toNat)
    case atStart => exact ⟨0, 0, by omega, rfl, rfl, by omega, by simp⟩
    case round =>
      obtain ⟨k, m, hk, rfl, hm, hmz, rfl⟩ := hrel
      by_cases hlt : k < es.length
      · have hd : decide (k < es.length) = true := by simpa using hlt
        obtain ⟨ab, ao, v, rfl, hbB, hck, hv⟩ := HLA.out.cellAt hlt
        obtain ⟨A1, c1, rfl, -⟩ := hv.form
        have hq := HLO.out es[k] (List.getElem_mem hlt)
        have hstep := strm_take es k hlt
        rw [← hm] at hstep
        have hsp := strm_split es (k + 1)
        generalize hqq : es[k].length = q at *
        have HST := Lib.hid hstep
        have HSP := Lib.hid hsp
        clear hm hstep hsp hv hqq
        by_cases hfit : m + (3 + q) ≤ 63 * sz
        · have hneg : decide ((63 * (sz : Int) - (m : Int) - (3 + (q : Int))) < 0) = false := by simp; omega
          go_wp2
          go_round
          case rel => exact ⟨k + 1, m + (3 + q), by omega, by go_num, HST.out.symm, hfit, by go_num⟩
          case measure => simp [intOf]; omega
        · have hneg : decide ((63 * (sz : Int) - (m : Int) - (3 + (q : Int))) < 0) = true := by simp; omega
          have e : compactG writeD flushD D L (szD D) es = (D, L, 2) := by
            unfold compactG
            rw [← any_long, if_neg (by rw [HAN.out]; simp), if_pos (by rw [← HSZ.out]; have h1 := HST.out; have h2 := HSP.out; omega)]
          have E := Lib.hid e
          clear e
          go_wp2
          go_ret
          exact ⟨by rw [E.out]; rfl, X, Y, by rw [E.out]; exact HH.out, Grew.of_kept (Kept.refl _ _)⟩
      · obtain rfl : k = es.length := by omega
        rw [List.take_length] at hm
        have hd : decide (es.length < es.length) = false := by simp
        subst hm
        cases hfin : L.fin with
        | true =>
          have e : compactG writeD flushD D L (szD D) es = (D, L, 30) := by
            unfold compactG
            rw [← any_long, if_neg (by rw [HAN.out]; simp), if_neg (by rw [← HSZ.out]; omega), if_pos hfin]
          have E := Lib.hid e
          rw [hfin] at y7
          clear e hfin
          go_wp2
          go_ret
          exact ⟨by rw [E.out]; rfl, X, Y, by rw [E.out]; exact HH.out, Grew.of_kept (Kept.refl _ _)⟩
        | false =>
          rw [hfin] at y7
          obtain ⟨R, hR⟩ : ∃ R, R = anewG writeD flushD D L.g L.half (szD D) es := ⟨_, rfl⟩
          have e : compactG writeD flushD D L (szD D) es = (R.1, anewL L es R.2, R.2) := by
            unfold compactG
            rw [← any_long, if_neg (by rw [HAN.out]; simp), if_neg (by rw [← HSZ.out]; omega), hfin, if_neg (by simp), hR]
          have hlenR : R.1.sure.length = D.sure.length := by rw [hR]; exact anewG_len _ _ _ _ _
          have hh := HH.out
          obtain ⟨ev1, tv1, vs1, m1, -⟩ := hh.lg
          have hyb := (hh.y b (hh.xy b hh.x.1)).1
          have hyd := (hh.y d (hh.xy d hh.x.2.1)).1
          have hys := (hh.y sb (hh.xy sb hh.x.2.2.1)).1
          have hym := (hh.y mb (hh.xy mb hh.x.2.2.2)).1
          have cA := anew_calls hh.dv h4 hh.ok.g1 hh.ok.g2 hh.ok.hf m1 hh.ne HX.out (fun i _ h => h) HE.out (fun i hi => by omega) HLO.out (by rw [← HSZ.out]; exact hmz)
          rw [← hR] at cA
          have CA := Lib.hid cA
          have M1 := Lib.hid m1
          have E := Lib.hid e
          have HLR := Lib.hid hlenR
          have HR := Lib.hid hR
          clear cA e hlenR hR hh m1 hfin
          go_wp2_with fail
          refine CA.out.mono ?_
          rintro e W3 ⟨rfl, hD3, hbad, hgood, hK3⟩
          have HD3 := Lib.hid hD3
          have HBad := Lib.hid hbad
          have HGood := Lib.hid hgood
          have HK3 := Lib.hid hK3
          clear hD3 hbad hgood hK3 CA
          go_wp2
          go_ret
          rw [E.out]
          refine ⟨rfl, ?_⟩
          have hh := HH.out
          have hK := HK3.out
          have hD := HD3.out
          have hlr := HLR.out
          have hsK := hK.size
          have hok : LgOk (anewL L es R.2) (szD R.1) := by
            rw [szD_len hlr]
            exact hh.ok.anew (by rw [← HSZ.out]; exact hmz) HLO.out _
          by_cases h0 : R.2 = 0
          · obtain ⟨ev', tv', vs', o1, o2, o3, o4⟩ := HGood.out h0
            unfold anewL at hok ⊢
            rw [if_pos h0] at hok ⊢
            have hbl := o1.lt
            have hdl := hD.ob.lt
            have hsl := hD.sure.lt
            have hml := hD.map.lt
            refine ⟨fun i => i = b ∨ i = d ∨ i = sb ∨ i = mb ∨ ev'.ownBlock = some i, fun i => i = b ∨ i = d ∨ i = sb ∨ i = mb ∨ (w.heap.size ≤ i ∧ i < W3.heap.size), ⟨hD, by show 4 ≤ R.1.sure.length; omega, ⟨ev', tv', vs', o1, row_wide o2 hbase, fun g hg => .inr (.inr (.inr (.inr hg))), fun g hg => ?_, ?_, ?_⟩, ⟨.inl rfl, .inr (.inl rfl), .inr (.inr (.inl rfl)), .inr (.inr (.inr (.inl rfl)))⟩, hh.ne, fun i hi => ?_, fun i hi => ?_, hok⟩, ⟨fun i hi => ?_, fun i hi => ?_, kept_x hh.x hK⟩⟩
            · have h1 := (o2.lt g hg).1
              have h2 := (hh.y d (hh.xy d hh.x.2.1)).2
              have h3 := (hh.y sb (hh.xy sb hh.x.2.2.1)).2
              have h4' := (hh.y mb (hh.xy mb hh.x.2.2.2)).2
              omega
            · refine o3.lt.mono fun i hi => ⟨.inr (.inr (.inr (.inr ⟨hi.1.1, hi.2⟩))), ?_⟩
              have h2 := (hh.y d (hh.xy d hh.x.2.1)).2
              have h3 := (hh.y sb (hh.xy sb hh.x.2.2.1)).2
              have h4' := (hh.y mb (hh.xy mb hh.x.2.2.2)).2
              rintro (h | h | h | h | h)
              · omega
              · omega
              · omega
              · omega
              · exact hi.1.2 h
            · refine o4.lt.mono fun i hi => ⟨.inr (.inr (.inr (.inr ⟨hi.1.1, hi.2⟩))), ?_⟩
              have h2 := (hh.y d (hh.xy d hh.x.2.1)).2
              have h3 := (hh.y sb (hh.xy sb hh.x.2.2.1)).2
              have h4' := (hh.y mb (hh.xy mb hh.x.2.2.2)).2
              rintro (h | h | h | h | h)
              · omega
              · omega
              · omega
              · omega
              · exact hi.1.2 h
            · rcases hi with h | h | h | h | h
              · exact .inl h
              · exact .inr (.inl h)
              · exact .inr (.inr (.inl h))
              · exact .inr (.inr (.inr (.inl h)))
              · have := o2.lt i h; exact .inr (.inr (.inr (.inr (by omega))))
            · omega
            · rcases hi with h | h | h | h | h
              · exact .inl (h ▸ hh.x.1)
              · exact .inl (h ▸ hh.x.2.1)
              · exact .inl (h ▸ hh.x.2.2.1)
              · exact .inl (h ▸ hh.x.2.2.2)
              · have := o2.lt i h; exact .inr (by omega)
            · rcases hi with h | h | h | h | h
              · exact .inl (h ▸ hh.xy b hh.x.1)
              · exact .inl (h ▸ hh.xy d hh.x.2.1)
              · exact .inl (h ▸ hh.xy sb hh.x.2.2.1)
              · exact .inl (h ▸ hh.xy mb hh.x.2.2.2)
              · exact .inr (by omega)
          · have hr := hh.remake hK hD hlr (su := L.sure) (fin := true) (fun ev tv ho => by
              have e := Option.some.inj (ho.symm.trans M1.out)
              obtain ⟨rfl, rfl⟩ : ev = ev1 ∧ tv = tv1 := by simpa [lgC] using e
              exact HBad.out h0) hh.ok.sure
            refine ⟨X, Y, ?_, Grew.of_kept (kept_x hh.x hK)⟩
            unfold anewL
            rw [if_neg h0]
            exact hr
end
end Wa
end Go.Proofs.Yteiniahikhiadaa

namespace Go.Proofs.Yteiniahikhiadaa
open Go.RowKit Go.Maps
namespace Wa
open Ce Se
def szR (R : Rv) : Nat := (R.sure.length - 2) / 2
/-- the cells of the document's log -/
def rlgC (x : Nat) (L : Lg) (lv : Value) : Array Value := #[.pointer (some ⟨x, 0, none⟩), .int .i64 L.g, .int .i64 (L.half : Nat), lv, .int .i64 (L.sure : Nat), .bool L.fin]
/-- a list of entries in blocks of a kind -/
def ListsIn (w : World) (Fr : Nat → Prop) (v : Value) (es : List (List UInt8)) : Prop := ∃ lo hi vals, Sl w lo hi 1 v es.length vals ∧ hi ≤ w.heap.size ∧ (∀ i, lo ≤ i → i < hi → Fr i) ∧ Ents w Fr vals es
section
variable {w w' : World} {Fr Fr' : Nat → Prop} {v : Value} {es : List (List UInt8)}
theorem ListsIn.lt (h : ListsIn w Fr v es) : ListsIn w (fun i => Fr i ∧ i < w.heap.size) v es := by
  obtain ⟨lo, hi, vals, h1, h2, h3, h4⟩ := h
  exact ⟨lo, hi, vals, h1, h2, fun i a b => ⟨h3 i a b, by omega⟩, h4.lt⟩
theorem ListsIn.mono (h : ListsIn w Fr v es) (hF : ∀ i, Fr i → Fr' i) : ListsIn w Fr' v es := by
  obtain ⟨lo, hi, vals, h1, h2, h3, h4⟩ := h
  exact ⟨lo, hi, vals, h1, h2, fun i a b => hF i (h3 i a b), h4.mono hF⟩
theorem ListsIn.kept (h : ListsIn w Fr v es) (hk : Kept Fr w w') : ListsIn w' Fr v es := by
  obtain ⟨lo, hi, vals, h1, h2, h3, h4⟩ := h
  exact ⟨lo, hi, vals, hk.sl h1 h3, Nat.le_trans h2 hk.size, h3, h4.kept hk⟩
theorem ListsIn.keptL (h : ListsIn w Fr v es) (hk : Kept (fun i => i < w.heap.size ∧ Fr i) w w') : ListsIn w' Fr v es :=
  ((h.lt.mono fun i hi => ⟨hi.2, hi.1⟩ : ListsIn w (fun i => i < w.heap.size ∧ Fr i) v es).kept hk).mono fun i hi => hi.2
theorem ListsIn.same (h : ListsIn w Fr v es) (hb : Below w.heap.size w w') : ListsIn w' Fr v es :=
  h.keptL (Kept.of_below hb fun i hi => hi.1)
theorem ListsIn.at_ (h : ListsIn w Fr v es) : ListsAt w v es := by
  obtain ⟨lo, hi, vals, h1, h2, h3, h4⟩ := h
  exact ⟨vals, h1.wide (Nat.zero_le _) h2, h4.lt.mono fun i hi => hi.2⟩
theorem ListsIn.nil (w : World) (Fr : Nat → Prop) : ListsIn w Fr (.slice none 0 0) [] := ⟨0, 0, [], BytesAt.nil w 0 0, Nat.zero_le _, fun i a b => by omega, trivial⟩
theorem ListsIn.form (h : ListsIn w Fr v es) : ∃ A c, v = .slice A es.length c ∧ es.length ≤ c ∧ c ≤ maxLen := h.at_.form
end
/-- blocks that the document's log does not write -/
def Fr5 (b x sb lb tb : Nat) (i : Nat) : Prop := i ≠ b ∧ i ≠ x ∧ i ≠ sb ∧ i ≠ lb ∧ i ≠ tb
/-- and that are of a kind -/
def FrZ (b x sb lb tb : Nat) (Z : Nat → Prop) (i : Nat) : Prop := Fr5 b x sb lb tb i ∧ Z i
/-- the document's log: its struct b, its device x sb lb tb -/
structure RLgAt (w : World) (base b x sb lb tb : Nat) (Z : Nat → Prop) (R : Rv) (L : Lg) : Prop where
  dv : RvAt w base x sb lb tb R
  len : 4 ≤ R.sure.length
  lg : ∃ lv, Ob w b 100 (rlgC x L lv) ∧ ListsIn w (FrZ b x sb lb tb Z) lv L.es
  ne : b ≠ x ∧ b ≠ sb ∧ b ≠ lb ∧ b ≠ tb
  lo : base ≤ b
  ok : LgOk L (szR R)
/-- what a call of the document's log leaves alone -/
def RLev (b x sb lb tb : Nat) (w w' : World) : Prop := Kept (fun i => i < w.heap.size ∧ Fr5 b x sb lb tb i) w w'
section
variable {w w' w'' : World} {base b x sb lb tb : Nat} {R R' : Rv} {L : Lg} {Z Z' : Nat → Prop}
theorem RLev.refl (w : World) : RLev b x sb lb tb w w := Kept.refl _ _
theorem RLev.trans (h : RLev b x sb lb tb w w') (k : RLev b x sb lb tb w' w'') : RLev b x sb lb tb w w'' := Kept.trans h (Kept.mono k fun _ hi => ⟨Nat.lt_of_lt_of_le hi.1 (Kept.size h), hi.2⟩)
theorem RLev.of_below (h : Below w.heap.size w w') : RLev b x sb lb tb w w' := Kept.of_below h fun _ hi => hi.1
theorem RLev.of_rev (h : Rev x sb lb tb w w') : RLev b x sb lb tb w w' := Kept.mono h fun _ hi => ⟨hi.1, hi.2.2⟩
theorem RLev.of_set (w : World) (j : Nat) (v : Value) : RLev b x sb lb tb w (w.setCell ⟨b, j, none⟩ v) := Kept.of_grown (grownBy_set w b j v) fun i hi => ⟨hi.1, fun e => hi.2.1 (Option.some.inj e)⟩
theorem RLev.size (h : RLev b x sb lb tb w w') : w.heap.size ≤ w'.heap.size := Kept.size h
theorem RLev.below {B : Nat} (h : RLev b x sb lb tb w w') (hB : B ≤ w.heap.size) (hd : B ≤ b ∧ B ≤ x ∧ B ≤ sb ∧ B ≤ lb ∧ B ≤ tb) : Below B w w' := Kept.below h fun i hi => ⟨by omega, by omega, by omega, by omega, by omega, by omega⟩
theorem RLgAt.same (h : RLgAt w base b x sb lb tb Z R L) (hb : Below w.heap.size w w') : RLgAt w' base b x sb lb tb Z R L := by
  obtain ⟨h1, h2, ⟨lv, h3, h4⟩, h5, h6, h7⟩ := h
  exact ⟨h1.same hb, h2, ⟨lv, h3.same hb, h4.same hb⟩, h5, h6, h7⟩
theorem ListsIn.keptR {v : Value} {es : List (List UInt8)} (h : ListsIn w (FrZ b x sb lb tb Z) v es) (hk : RLev b x sb lb tb w w') : ListsIn w' (FrZ b x sb lb tb Z) v es :=
  h.keptL (Kept.mono hk fun _ hi => ⟨hi.1, hi.2.1⟩)
theorem RLgAt.turn (h : RLgAt w base b x sb lb tb Z R L) (hz : ∀ i, i < w.heap.size → Z i → Z' i) : RLgAt w base b x sb lb tb Z' R L := by
  obtain ⟨h1, h2, ⟨lv, h3, h4⟩, h5, h6, h7⟩ := h
  exact ⟨h1, h2, ⟨lv, h3, h4.lt.mono fun i hi => ⟨hi.1.1, hz i hi.2 hi.1.2⟩⟩, h5, h6, h7⟩
theorem RLgAt.cells {lv : Value} (h : Ob w b 100 (rlgC x L lv)) : w.cell? ⟨b, 0, none⟩ = some (.pointer (some ⟨x, 0, none⟩)) ∧ w.cell? ⟨b, 1, none⟩ = some (.int .i64 L.g) ∧ w.cell? ⟨b, 2, none⟩ = some (.int .i64 (L.half : Nat)) ∧ w.cell? ⟨b, 3, none⟩ = some lv ∧ w.cell? ⟨b, 4, none⟩ = some (.int .i64 (L.sure : Nat)) ∧ w.cell? ⟨b, 5, none⟩ = some (.bool L.fin) :=
  ⟨h.cell (j := 0) rfl, h.cell (j := 1) rfl, h.cell (j := 2) rfl, h.cell (j := 3) rfl, h.cell (j := 4) rfl, h.cell (j := 5) rfl⟩
theorem rsize_calls (h : RvAt w base x sb lb tb R) (h2 : 2 ≤ R.sure.length) (hc : w.cell? ⟨b, 0, none⟩ = some (.pointer (some ⟨x, 0, none⟩))) :
    Calls Try.prog 60 #[.pointer (some ⟨b, 0, none⟩)] w fun e w' => e = .returned (.int .i64 (szR R : Nat)) ∧ w = w' := by
  obtain ⟨y0, -⟩ := h.cells
  have hlen := h.len
  unfold szR
  generalize R.sure.length = n at *
  clear h
  go_enter Try.func60, Try.ntmps60
  go_wp2
  go_ret
  exact ⟨by go_num, rfl⟩
end
end Wa
end Go.Proofs.Yteiniahikhiadaa
