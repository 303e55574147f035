/-
  sector: the document's device in memory.
-/
import Derived.Test.YteiniahikhiadaaSgA
import Derived.Test.YteiniahikhiadaaSeD
namespace Go.Proofs.Yteiniahikhiadaa
open Go.RowKit Go.Maps
namespace Se
open Ce
theorem size_cell (w : World) (a : Addr) (v : Value) : (w.setCell a v).heap.size = w.heap.size := by simp
/-- one byte of a sector -/
theorem SureAt.byte {w : World} {sb : Nat} {bs : List Blk} (h : SureAt w sb bs) (hbs : ∀ c ∈ bs, c.length = 64) {i j : Nat} (hi : i < bs.length) (hj : j < 64) (c : UInt8) : SureAt (w.setCell ⟨sb, i * 64 + j, none⟩ (.int .u8 (c.toNat : Int))) sb (bs.set i ((bs.getD i []).set j c)) := by
  have h64 := hbs _ (List.getElem_mem hi)
  have eg : bs.getD i [] = bs[i] := by rw [List.getD_eq_getElem?_getD, List.getElem?_eq_getElem hi]; rfl
  have e1 : w.setCell ⟨sb, i * 64 + j, none⟩ (.int .u8 (c.toNat : Int)) = w.setCells sb (i * 64 + j) [.int .u8 (c.toNat : Int)] := rfl
  rw [e1]
  refine ⟨fun k hk => ?_, by rw [List.length_set]; exact World.there_setCells h.there _ _ _, by rw [size_cells]; exact h.lt⟩
  rw [List.length_set] at hk
  by_cases e : i = k
  · subst e
    rw [List.getElem_set_self, eg]
    intro m v hv
    by_cases hm : m = j
    · subst hm
      have hv2 : v = .int .u8 (c.toNat : Int) := by
        unfold bytesV at hv
        rw [List.getElem?_map, List.getElem?_set_self (by omega)] at hv
        exact (Option.some.inj hv).symm
      subst hv2
      have := World.rangeAt_setCells_same w sb (i * 64 + m) [.int .u8 (c.toNat : Int)] (there_part h.there (by simp; omega)) 0 _ rfl
      simpa using this
    · have h2 : (bytesV bs[i])[m]? = some v := by
        unfold bytesV at hv ⊢
        rw [List.getElem?_map, List.getElem?_set_ne (Ne.symm hm)] at hv
        rw [List.getElem?_map]
        exact hv
      rw [World.cell?_setCells_out sb _ _ w ⟨sb, i * 64 + m, none⟩ (fun _ _ => by
        rcases Nat.lt_or_ge m j with h3 | h3
        · left; show i * 64 + m < i * 64 + j; omega
        · right; show i * 64 + j + 1 ≤ i * 64 + m; omega)]
      exact h.at_ i hi m v h2
  · rw [List.getElem_set_ne e]
    have hl2 : (bytesV bs[k]).length = 64 := by rw [bytesV_length]; exact hbs _ (List.getElem_mem hk)
    exact World.rangeAt_setCells_apart (h.at_ k hk) _ _ _ (by simp; omega)
def revC (R : Rv) (sb lb tb : Nat) : Array Value := #[.slice (some ⟨sb, 0, none⟩) R.sure.length R.sure.length, .slice (some ⟨lb, 0, none⟩) R.sure.length R.sure.length, .slice (some ⟨tb, 0, none⟩) R.sure.length R.sure.length, .bool R.stops, .int .i64 R.left, .int .i64 R.wr, .int .i64 R.fl]
def boolC (l : List Bool) : Array Value := (l.map Value.bool).toArray
theorem boolC_get {l : List Bool} {i : Nat} (hi : i < l.length) : (boolC l)[i]? = some (.bool (l.getD i false)) := by
  unfold boolC
  rw [List.getElem?_toArray, List.getElem?_map, List.getElem?_eq_getElem hi, List.getD_eq_getElem?_getD, List.getElem?_eq_getElem hi]
  rfl
theorem boolC_set (l : List Bool) (i : Nat) (x : Bool) : (boolC l).setIfInBounds i (.bool x) = boolC (l.set i x) := by
  unfold boolC
  rw [List.setIfInBounds_toArray, List.map_set]
/-- the document's device: its struct x, sure sectors, last ones, dirty marks -/
structure RvAt (w : World) (base x sb lb tb : Nat) (R : Rv) : Prop where
  ob : Ob w x 98 (revC R sb lb tb)
  sure : SureAt w sb R.sure
  last : SureAt w lb R.last
  dirty : Ob w tb 4 (boolC R.dirty)
  ok : OkR R
  ne : x ≠ sb ∧ x ≠ lb ∧ x ≠ tb ∧ sb ≠ lb ∧ sb ≠ tb ∧ lb ≠ tb
  lo : base ≤ x ∧ base ≤ sb ∧ base ≤ lb ∧ base ≤ tb
  len : 0 < R.sure.length ∧ R.sure.length ≤ 16384
section
variable {w w' : World} {base x sb lb tb : Nat} {R R' : Rv} {Fr : Nat → Prop}
theorem RvAt.kept (h : RvAt w base x sb lb tb R) (hk : Kept Fr w w') (h0 : Fr x) (h1 : Fr sb) (h2 : Fr lb) (h3 : Fr tb) : RvAt w' base x sb lb tb R :=
  ⟨hk.ob h.ob h0, h.sure.kept (hk.block sb h1) hk.size, h.last.kept (hk.block lb h2) hk.size, hk.ob h.dirty h3, h.ok, h.ne, h.lo, h.len⟩
theorem RvAt.same (h : RvAt w base x sb lb tb R) (hb : Below w.heap.size w w') : RvAt w' base x sb lb tb R :=
  h.kept (Kept.of_below hb (Fr := fun i => i < w.heap.size) fun _ hi => hi) h.ob.lt h.sure.lt h.last.lt h.dirty.lt
theorem RvAt.cells (h : RvAt w base x sb lb tb R) : w.cell? ⟨x, 0, none⟩ = some (.slice (some ⟨sb, 0, none⟩) R.sure.length R.sure.length) ∧ w.cell? ⟨x, 1, none⟩ = some (.slice (some ⟨lb, 0, none⟩) R.sure.length R.sure.length) ∧ w.cell? ⟨x, 2, none⟩ = some (.slice (some ⟨tb, 0, none⟩) R.sure.length R.sure.length) ∧
    w.cell? ⟨x, 3, none⟩ = some (.bool R.stops) ∧ w.cell? ⟨x, 4, none⟩ = some (.int .i64 R.left) ∧ w.cell? ⟨x, 5, none⟩ = some (.int .i64 R.wr) ∧ w.cell? ⟨x, 6, none⟩ = some (.int .i64 R.fl) :=
  ⟨h.ob.cell (j := 0) rfl, h.ob.cell (j := 1) rfl, h.ob.cell (j := 2) rfl, h.ob.cell (j := 3) rfl, h.ob.cell (j := 4) rfl, h.ob.cell (j := 5) rfl, h.ob.cell (j := 6) rfl⟩
/-- what a call of the document's may write -/
def Rev (x sb lb tb : Nat) (w w' : World) : Prop := Kept (fun i => i < w.heap.size ∧ i ≠ x ∧ i ≠ sb ∧ i ≠ lb ∧ i ≠ tb) w w'
theorem Rev.refl (w : World) : Rev x sb lb tb w w := Kept.refl _ _
theorem Rev.of (hg : w.grownBy w' (some base)) (h : base = x ∨ base = sb ∨ base = lb ∨ base = tb) : Rev x sb lb tb w w' :=
  Kept.of_grown hg fun i hi => ⟨hi.1, fun e => by have := Option.some.inj e; omega⟩
theorem Rev.trans {w'' : World} (h : Rev x sb lb tb w w') (k : Rev x sb lb tb w' w'') : Rev x sb lb tb w w'' := Kept.trans h (Kept.mono k fun _ hi => ⟨Nat.lt_of_lt_of_le hi.1 (Kept.size h), hi.2⟩)
theorem Rev.drew : Rev x sb lb tb w w.drew := Kept.of_below (Below.refl _ _).drew fun _ hi => hi.1
theorem Rev.below {B : Nat} (h : Rev x sb lb tb w w') (hB : B ≤ w.heap.size) (hd : B ≤ x ∧ B ≤ sb ∧ B ≤ lb ∧ B ≤ tb) : Below B w w' := Kept.below h fun i hi => ⟨by omega, by omega, by omega, by omega, by omega⟩
theorem Rev.size (h : Rev x sb lb tb w w') : w.heap.size ≤ w'.heap.size := Kept.size h
/-- the struct's own block is written -/
theorem RvAt.own (h : RvAt w base x sb lb tb R) (hg : w.grownBy w' (some x)) (ho : Ob w' x 98 (revC R' sb lb tb)) (hs : R'.sure = R.sure) (hl : R'.last = R.last) (hd : R'.dirty = R.dirty) (hok : OkR R') : RvAt w' base x sb lb tb R' := by
  have n1 : some sb ≠ some x := fun e => h.ne.1 (Option.some.inj e).symm
  have n2 : some lb ≠ some x := fun e => h.ne.2.1 (Option.some.inj e).symm
  have n3 : some tb ≠ some x := fun e => h.ne.2.2.1 (Option.some.inj e).symm
  refine ⟨ho, ?_, ?_, ?_, hok, h.ne, h.lo, by rw [hs]; exact h.len⟩
  · rw [hs]; exact h.sure.kept (hg.block sb h.sure.lt n1) hg.size
  · rw [hl]; exact h.last.kept (hg.block lb h.last.lt n2) hg.size
  · rw [hd]; exact h.dirty.kept hg n3
theorem RvAt.setSure (h : RvAt w base x sb lb tb R) {i : Nat} (hi : i < R.sure.length) {b : Blk} (hb : b.length = 64) : RvAt (w.setCells sb (i * 64) (bytesV b)) base x sb lb tb { R with sure := R.sure.set i b } := by
  have hg := grownBy_cells (b := sb) (bytesV b) w (i * 64)
  refine ⟨?_, h.sure.set h.ok.sure hi hb, h.last.kept (hg.block lb h.last.lt (fun e => h.ne.2.2.2.1 (Option.some.inj e).symm)) hg.size, h.dirty.kept hg (fun e => h.ne.2.2.2.2.1 (Option.some.inj e).symm), ⟨set_mem h.ok.sure hb i, h.ok.last, by rw [List.length_set]; exact h.ok.ll, by rw [List.length_set]; exact h.ok.dl, h.ok.left, h.ok.wr, h.ok.fl⟩, h.ne, h.lo, by rw [List.length_set]; exact h.len⟩
  simp only [revC, List.length_set]
  exact h.ob.kept hg (fun e => h.ne.1 (Option.some.inj e))
theorem RvAt.setLast (h : RvAt w base x sb lb tb R) {i : Nat} (hi : i < R.sure.length) {b : Blk} (hb : b.length = 64) : RvAt (w.setCells lb (i * 64) (bytesV b)) base x sb lb tb { R with last := R.last.set i b } := by
  have hg := grownBy_cells (b := lb) (bytesV b) w (i * 64)
  refine ⟨?_, h.sure.kept (hg.block sb h.sure.lt (fun e => h.ne.2.2.2.1 (Option.some.inj e))) hg.size, h.last.set h.ok.last (by rw [h.ok.ll]; exact hi) hb, h.dirty.kept hg (fun e => h.ne.2.2.2.2.2 (Option.some.inj e).symm), ⟨h.ok.sure, set_mem h.ok.last hb i, by rw [List.length_set]; exact h.ok.ll, h.ok.dl, h.ok.left, h.ok.wr, h.ok.fl⟩, h.ne, h.lo, h.len⟩
  simp only [revC]
  exact h.ob.kept hg (fun e => h.ne.2.1 (Option.some.inj e))
theorem RvAt.setDirty (h : RvAt w base x sb lb tb R) (i : Nat) (b : Bool) : RvAt (w.setCell ⟨tb, i, none⟩ (.bool b)) base x sb lb tb { R with dirty := R.dirty.set i b } := by
  have hg := grownBy_set w tb i (.bool b)
  refine ⟨?_, h.sure.kept (hg.block sb h.sure.lt (fun e => h.ne.2.2.2.2.1 (Option.some.inj e))) hg.size, h.last.kept (hg.block lb h.last.lt (fun e => h.ne.2.2.2.2.2 (Option.some.inj e))) hg.size, ?_, ⟨h.ok.sure, h.ok.last, h.ok.ll, by rw [List.length_set]; exact h.ok.dl, h.ok.left, h.ok.wr, h.ok.fl⟩, h.ne, h.lo, h.len⟩
  · simp only [revC]
    exact h.ob.kept hg (fun e => h.ne.2.2.1 (Option.some.inj e))
  · have := h.dirty.set i (.bool b)
    rw [boolC_set] at this
    exact this
theorem RvAt.lastByte (h : RvAt w base x sb lb tb R) {i j : Nat} (hi : i < R.sure.length) (hj : j < 64) (c : UInt8) : RvAt (w.setCell ⟨lb, i * 64 + j, none⟩ (.int .u8 (c.toNat : Int))) base x sb lb tb { R with last := R.last.set i ((R.last.getD i []).set j c) } := by
  have hg := grownBy_set w lb (i * 64 + j) (.int .u8 (c.toNat : Int))
  have hb : ((R.last.getD i []).set j c).length = 64 := by rw [List.length_set]; exact last_len h.ok hi
  refine ⟨?_, h.sure.kept (hg.block sb h.sure.lt (fun e => h.ne.2.2.2.1 (Option.some.inj e))) hg.size, h.last.byte h.ok.last (by rw [h.ok.ll]; exact hi) hj c, h.dirty.kept hg (fun e => h.ne.2.2.2.2.2 (Option.some.inj e).symm), ⟨h.ok.sure, set_mem h.ok.last hb i, by rw [List.length_set]; exact h.ok.ll, h.ok.dl, h.ok.left, h.ok.wr, h.ok.fl⟩, h.ne, h.lo, h.len⟩
  simp only [revC]
  exact h.ob.kept hg (fun e => h.ne.2.1 (Option.some.inj e))
theorem RvAt.sureByte (h : RvAt w base x sb lb tb R) {i j : Nat} (hi : i < R.sure.length) (hj : j < 64) (c : UInt8) : RvAt (w.setCell ⟨sb, i * 64 + j, none⟩ (.int .u8 (c.toNat : Int))) base x sb lb tb { R with sure := R.sure.set i ((R.sure.getD i []).set j c) } := by
  have hg := grownBy_set w sb (i * 64 + j) (.int .u8 (c.toNat : Int))
  have hb : ((R.sure.getD i []).set j c).length = 64 := by rw [List.length_set]; exact surer_len h.ok hi
  refine ⟨?_, h.sure.byte h.ok.sure hi hj c, h.last.kept (hg.block lb h.last.lt (fun e => h.ne.2.2.2.1 (Option.some.inj e).symm)) hg.size, h.dirty.kept hg (fun e => h.ne.2.2.2.2.1 (Option.some.inj e).symm), ⟨set_mem h.ok.sure hb i, h.ok.last, by rw [List.length_set]; exact h.ok.ll, by rw [List.length_set]; exact h.ok.dl, h.ok.left, h.ok.wr, h.ok.fl⟩, h.ne, h.lo, by rw [List.length_set]; exact h.len⟩
  simp only [revC, List.length_set]
  exact h.ob.kept hg (fun e => h.ne.1 (Option.some.inj e))
end
theorem bool_info : (Try.prog.info? 4).map (fun i => (i.zero, i.size, i.bytes)) = some (some (.bool false), 1, 1) := by kernel_rfl
end Se
end Go.Proofs.Yteiniahikhiadaa
