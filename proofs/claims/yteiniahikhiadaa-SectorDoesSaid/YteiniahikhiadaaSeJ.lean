/-
  sector: Read.
-/
import Derived.Test.YteiniahikhiadaaSeI
namespace Go.Proofs.Yteiniahikhiadaa
open Go.RowKit Go.Maps
namespace Se
open Ce

theorem zero64 (W : World) : (zeroValue 102).run Try.prog W = .ok (.agg (Array.replicate 64 (.int .u8 0))) W := by kernel_rfl
theorem there_new (w : World) (Z : Array Value) (t : TypeId) : (w.alloc (.cells Z t)).there w.heap.size 0 Z.size := fun j hj => by
  have := Ob.new w t Z
  refine ⟨?_, this.frozen _⟩
  rw [this.cell (j := 0 + j) (v := Z[j]) (by rw [Nat.zero_add, Array.getElem?_eq_getElem hj])]
  rfl
theorem store_blk (W : World) (g : Nat) (b : Blk) (hb : b.length = 64) (ht : W.there g 0 64) : (storeCells ⟨g, 0, none⟩ (bytesV b)).run Try.prog W = .ok () (W.setCells g 0 (bytesV b)) := by
  have := run_storeCells_cells (P := Try.prog) g 0 (bytesV b) 0 W (fun j hj => by simpa using (ht j (by rw [bytesV_length, hb] at hj; exact hj)).1) (fun j hj => by simpa using (ht j (by rw [bytesV_length, hb] at hj; exact hj)).2) (bytesV_one b)
  simpa using this
/-- a block of 64 zeros, as the walk makes it -/
def z64 : Array Value := #[.int .u8 0, .int .u8 0, .int .u8 0, .int .u8 0, .int .u8 0, .int .u8 0, .int .u8 0, .int .u8 0, .int .u8 0, .int .u8 0, .int .u8 0, .int .u8 0, .int .u8 0, .int .u8 0, .int .u8 0, .int .u8 0, .int .u8 0, .int .u8 0, .int .u8 0, .int .u8 0, .int .u8 0, .int .u8 0, .int .u8 0, .int .u8 0, .int .u8 0, .int .u8 0, .int .u8 0, .int .u8 0, .int .u8 0, .int .u8 0, .int .u8 0, .int .u8 0, .int .u8 0, .int .u8 0, .int .u8 0, .int .u8 0, .int .u8 0, .int .u8 0, .int .u8 0, .int .u8 0, .int .u8 0, .int .u8 0, .int .u8 0, .int .u8 0, .int .u8 0, .int .u8 0, .int .u8 0, .int .u8 0, .int .u8 0, .int .u8 0, .int .u8 0, .int .u8 0, .int .u8 0, .int .u8 0, .int .u8 0, .int .u8 0, .int .u8 0, .int .u8 0, .int .u8 0, .int .u8 0, .int .u8 0, .int .u8 0, .int .u8 0, .int .u8 0]
theorem new_blk (w : World) (b : Blk) (hb : b.length = 64) : ∃ W2, (storeCells ⟨w.heap.size, 0, none⟩ (bytesV b)).run Try.prog (w.alloc (.cells #[.int .u8 0, .int .u8 0, .int .u8 0, .int .u8 0, .int .u8 0, .int .u8 0, .int .u8 0, .int .u8 0, .int .u8 0, .int .u8 0, .int .u8 0, .int .u8 0, .int .u8 0, .int .u8 0, .int .u8 0, .int .u8 0, .int .u8 0, .int .u8 0, .int .u8 0, .int .u8 0, .int .u8 0, .int .u8 0, .int .u8 0, .int .u8 0, .int .u8 0, .int .u8 0, .int .u8 0, .int .u8 0, .int .u8 0, .int .u8 0, .int .u8 0, .int .u8 0, .int .u8 0, .int .u8 0, .int .u8 0, .int .u8 0, .int .u8 0, .int .u8 0, .int .u8 0, .int .u8 0, .int .u8 0, .int .u8 0, .int .u8 0, .int .u8 0, .int .u8 0, .int .u8 0, .int .u8 0, .int .u8 0, .int .u8 0, .int .u8 0, .int .u8 0, .int .u8 0, .int .u8 0, .int .u8 0, .int .u8 0, .int .u8 0, .int .u8 0, .int .u8 0, .int .u8 0, .int .u8 0, .int .u8 0, .int .u8 0, .int .u8 0, .int .u8 0] 102)) = .ok () W2 ∧ W2.rangeAt w.heap.size 0 (bytesV b) ∧ W2.there w.heap.size 0 64 ∧ Below w.heap.size w W2 ∧ W2.heap.size = w.heap.size + 1 := by
  have ht : (w.alloc (.cells z64 102)).there w.heap.size 0 64 := there_new w z64 _
  have hal := (Below.refl w.heap.size w).alloc (Nat.le_refl _) (.cells z64 102)
  refine ⟨_, store_blk _ _ b hb ht, World.rangeAt_setCells_same _ _ _ _ (by rw [bytesV_length, hb]; exact ht), World.there_setCells ht _ _ _, hal.grown (grownBy_cells _ _ _) hal.size (fun k e => by cases e; exact Nat.le_refl _), ?_⟩
  rw [size_cells]
  simp
section
variable {w w' : World} {base d sb mb : Nat} {D D' : Dv}
set_option maxRecDepth 100000 in
theorem read_arg (h : DvAt w base d sb mb D) (i : Int) (hbad : i < 0 ∨ (D.sure.length : Int) ≤ i) :
    Calls Try.prog 41 #[.pointer (some ⟨d, 0, none⟩), .int .i64 i] w fun e w' => e = .returned (.tuple #[.slice none 0 0, .int .i64 1]) ∧ w = w' := by
  obtain ⟨y0, y1, -⟩ := Ob.dev h.ob
  have cM := Lib.hid (made_calls d mb w y1)
  have cI := is_calls h i
  have e1 : decide (0 ≤ i ∧ i < (D.sure.length : Int)) = false := by simp; omega
  rw [e1] at cI
  have CI := Lib.hid cI
  clear h cI e1 hbad y0 y1
  go_enter Try.func41, Try.ntmps41
  go_wp2_with fail
  refine cM.out.mono ?_
  rintro e W ⟨rfl, rfl⟩
  go_wp2_with fail
  refine CI.out.mono ?_
  rintro e W ⟨rfl, rfl⟩
  go_wp2
  go_ret2
  exact ⟨rfl, rfl⟩
set_option maxRecDepth 100000 in
theorem read_off (h : DvAt w base d sb mb D) (ho : offD D = true) (i : Int) (hi0 : 0 ≤ i) (hi1 : i < D.sure.length) :
    Calls Try.prog 41 #[.pointer (some ⟨d, 0, none⟩), .int .i64 i] w fun e w' => e = .returned (.tuple #[.slice none 0 0, .int .i64 30]) ∧ w = w' := by
  obtain ⟨y0, y1, -⟩ := Ob.dev h.ob
  have cM := Lib.hid (made_calls d mb w y1)
  have cI := is_calls h i
  have e1 : decide (0 ≤ i ∧ i < (D.sure.length : Int)) = true := by simp; omega
  rw [e1] at cI
  have CI := Lib.hid cI
  have cO := off_calls h
  rw [ho] at cO
  have CO := Lib.hid cO
  clear h cI e1 y0 y1 hi0 hi1 cO ho
  go_enter Try.func41, Try.ntmps41
  go_wp2_with fail
  refine cM.out.mono ?_
  rintro e W ⟨rfl, rfl⟩
  go_wp2_with fail
  refine CI.out.mono ?_
  rintro e W ⟨rfl, rfl⟩
  go_wp2_with fail
  refine CO.out.mono ?_
  rintro e W ⟨rfl, rfl⟩
  go_wp2
  go_ret2
  exact ⟨rfl, rfl⟩
/-- a fresh sector's bytes -/
def BlkAt (w w' : World) (v : Value) (b : Blk) : Prop := ∃ g, v = .slice (some ⟨g, 0, none⟩) 64 64 ∧ w.heap.size ≤ g ∧ g < w'.heap.size ∧ w'.rangeAt g 0 (bytesV b) ∧ w'.there g 0 64
set_option maxRecDepth 100000 in
set_option maxHeartbeats 4000000 in
theorem read_good (h : DvAt w base d sb mb D) (ho : offD D = false) (i : Nat) (hi1 : i < D.sure.length) :
    Calls Try.prog 41 #[.pointer (some ⟨d, 0, none⟩), .int .i64 i] w fun e w' => (∃ v, e = .returned (.tuple #[v, .int .i64 0]) ∧ BlkAt w w' v (lastD D i)) ∧ Below w.heap.size w w' := by
  obtain ⟨y0, y1, -⟩ := Ob.dev h.ob
  have cM := Lib.hid (made_calls d mb w y1)
  have cI := is_calls h i
  have e1 : decide (0 ≤ (i : Int) ∧ (i : Int) < (D.sure.length : Int)) = true := by simp; omega
  rw [e1] at cI
  have CI := Lib.hid cI
  have cO := off_calls h
  rw [ho] at cO
  have CO := Lib.hid cO
  have hln := h.len.2
  have hkey := Lib.hid (keyI (k := (i : Int)) (by omega) (by omega))
  have hget := bm_get D.dm i
  have hr := h.sure.at_ i hi1
  have hl64 := lastD_len h.ok hi1
  have hs64 := h.ok.sure _ (List.getElem_mem hi1)
  have eg : D.sure.getD i [] = D.sure[i] := by rw [List.getD_eq_getElem?_getD, List.getElem?_eq_getElem hi1]; rfl
  have HM := Lib.hid h.map
  have hsl := h.sure.lt
  unfold lastD at hl64 ⊢
  rw [eg] at hl64 ⊢
  generalize D.sure[i] = bs at *
  have HR := Lib.hid hr
  clear cI e1 cO ho eg hr
  cases hg : bGet D.dm i with
  | some b =>
    rw [hg] at hget hl64
    simp only [Option.getD_some, Option.map_some] at hl64 hget ⊢
    have HG := Lib.hid (show (mGet (bm D.dm) i).getD (.agg (Array.replicate 64 (.int .u8 0))) = .agg (bytesV b).toArray by rw [hget]; rfl)
    have HIS := Lib.hid (show (mGet (bm D.dm) i).isSome = true by rw [hget]; rfl)
    have HL := Lib.hid hl64
    clear hget hg h hl64
    generalize bm D.dm = m at *
    generalize D.sure.length = n at *
    go_enter Try.func41, Try.ntmps41
    go_wp2_with fail
    refine cM.out.mono ?_
    rintro e W ⟨rfl, rfl⟩
    go_wp2_with fail
    refine CI.out.mono ?_
    rintro e W ⟨rfl, rfl⟩
    go_wp2_with fail
    refine CO.out.mono ?_
    rintro e W ⟨rfl, rfl⟩
    have hsz : (bytesV b).toArray.size = 64 := by simp [bytesV_length, HL.out]
    obtain ⟨W2, hst, hrg, hth, hbl, hw2⟩ := new_blk w b HL.out
    have HRG := Lib.hid hrg
    have HTH := Lib.hid hth
    have HBL := Lib.hid hbl
    have hw2' := Lib.hid hw2
    clear hrg hth hbl hw2
    have hone : ((bytesV b).toArray.all fun x => x.oneCell') = true := all_oneCell_toArray (bytesV_one b)
    go_wp2_with (at_lookup; refine wpList_look_ok_i rfl (.tmp 24) (.tmp 25) 79 rfl 3 102 keyedI Try.underlying79 rfl HM.out (zero64 _) _ _ rfl hkey.out _ _ HG.out HIS.out ?_)
    go_ret2
    exact ⟨⟨_, rfl, _, rfl, Nat.le_refl _, by rw [hw2'.out]; omega, HRG.out, HTH.out⟩, HBL.out⟩
  | none =>
    rw [hg] at hget hl64
    simp only [Option.getD_none, Option.map_none] at hl64 hget ⊢
    obtain ⟨b, hb⟩ : ∃ b : Blk, b = List.replicate 64 0 := ⟨_, rfl⟩
    have hb64 : b.length = 64 := by rw [hb]; rfl
    have HG := Lib.hid (show (mGet (bm D.dm) i).getD (.agg (Array.replicate 64 (.int .u8 0))) = .agg (bytesV b).toArray by rw [hget, hb]; kernel_rfl)
    have HIS := Lib.hid (show (mGet (bm D.dm) i).isSome = false by rw [hget]; rfl)
    have HL := Lib.hid hb64
    have HL2 := Lib.hid hs64
    have hdl := h.ob.lt
    clear hget hg h hl64 hb hb64
    generalize bm D.dm = m at *
    generalize D.sure.length = n at *
    have hsz : (bytesV b).toArray.size = 64 := by simp [bytesV_length, HL.out]
    obtain ⟨W2, hst, hrg, hth, hbl, hw2⟩ := new_blk w b HL.out
    have hsz2 : (bytesV bs).toArray.size = 64 := by simp [bytesV_length, HL2.out]
    have hr2 : W2.rangeAt sb (i * 64) (bytesV bs) := range_of_block (hbl.block sb hsl) HR.out
    have z0 := (hbl.cell (p := ⟨d, 0, none⟩) hdl).trans y0
    have hst2 := store_blk W2 w.heap.size bs HL2.out hth
    have HRG := Lib.hid (World.rangeAt_setCells_same W2 w.heap.size 0 (bytesV bs) (by rw [bytesV_length, HL2.out]; exact hth))
    have HTH := Lib.hid (World.there_setCells hth w.heap.size 0 (bytesV bs))
    have HBL := Lib.hid (hbl.grown (grownBy_cells (b := w.heap.size) (bytesV bs) W2 0) hbl.size (fun k e => by cases e; exact Nat.le_refl _))
    have HSZ := Lib.hid (show w.heap.size < (W2.setCells w.heap.size 0 (bytesV bs)).heap.size by rw [size_cells, hw2]; omega)
    have hw2' := Lib.hid hw2
    have HBC := Lib.hid hbl
    clear hrg hth hbl hw2
    go_enter Try.func41, Try.ntmps41
    go_wp2_with fail
    refine cM.out.mono ?_
    rintro e W ⟨rfl, rfl⟩
    go_wp2_with fail
    refine CI.out.mono ?_
    rintro e W ⟨rfl, rfl⟩
    go_wp2_with fail
    refine CO.out.mono ?_
    rintro e W ⟨rfl, rfl⟩
    go_wp2_with (first
      | (at_lookup; refine wpList_look_ok_i rfl (.tmp 24) (.tmp 25) 79 rfl 3 102 keyedI Try.underlying79 rfl HM.out (zero64 _) _ _ rfl hkey.out _ _ HG.out HIS.out ?_)
      | (refine wpList_load_mid rfl 102 (.tmp 36) rfl sb (i * 64) rfl (bytesV bs) _ hr2 Try.underlying102 rfl (by rw [bytesV_length, HL2.out]; kernel_rfl) ?_))
    go_ret2
    exact ⟨⟨_, rfl, _, rfl, Nat.le_refl _, HSZ.out, HRG.out, HTH.out⟩, HBL.out⟩
end
end Se
end Go.Proofs.Yteiniahikhiadaa
