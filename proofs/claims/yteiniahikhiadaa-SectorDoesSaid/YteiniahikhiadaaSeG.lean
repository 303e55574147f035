/-
  sector: Counts, Write.
-/
import Derived.Test.YteiniahikhiadaaSeF
import Derived.Test.YteiniahikhiadaaPm
namespace Go.Proofs.Yteiniahikhiadaa
open Go.RowKit Go.Maps
namespace Se
open Ce
theorem hmx : Try.prog.follows .mixedOrders = true := by kernel_rfl

section
variable {w w' : World} {base d sb mb : Nat} {D D' : Dv}
set_option maxRecDepth 100000 in
theorem counts_calls (h : DvAt w base d sb mb D) :
    Calls Try.prog 48 #[.pointer (some ⟨d, 0, none⟩)] w fun e w' => e = .returned (.tuple #[.int .i64 D.wr, .int .i64 D.fl]) ∧ Below w.heap.size w w' := by
  obtain ⟨y0, y1, y2, y3, y4, y5⟩ := Ob.dev h.ob
  have cM := Lib.hid (made_calls d mb w y1)
  have hdr := (Below.refl w.heap.size w).drew
  have hdl := h.ob.lt
  have c4 := Lib.hid (load_calls (d := d) 4 D.wr w.drew ((hdr.cell (p := ⟨d, 4, none⟩) hdl).trans y4))
  have c5 := Lib.hid (load_calls (d := d) 5 D.fl w.drew ((hdr.cell (p := ⟨d, 5, none⟩) hdl).trans y5))
  generalize D.wr = wr at *
  generalize D.fl = fl at *
  clear h
  go_enter Try.func48, Try.ntmps48
  go_wp2_with fail
  refine cM.out.mono ?_
  rintro e W ⟨rfl, rfl⟩
  go_wp2_with fail

  refine Pu.regionM [(0, false), (1, false), (2, false), (4, false), (5, false), (6, false), (3, true), (7, true), (8, false), (9, false)] (fun V => V = w.drew) hmx (by kernel_rfl) (by kernel_rfl) (by kernel_rfl) rfl rfl ?_
  simp only [Pu.named, List.filterMap_cons, List.filterMap_nil, List.getElem?_toArray, List.getElem?_cons_succ, List.getElem?_cons_zero, Option.map_some]
  iterate 6 (apply Pu.WalkM.on (by rfl)
             · intro V hV
               go_wp2_with fail
               refine ⟨rfl, ?_, rfl⟩
               try simp only [Act.put, List.setIfInBounds_toArray, List.set_cons_succ, List.set_cons_zero]
               rfl
             simp only [Act.put, List.setIfInBounds_toArray, List.set_cons_succ, List.set_cons_zero])
  refine Pu.WalkM.make (by rfl) ?_
  intro V hV
  rw [hV]
  clear hV V
  go_wp2_with (go_at_call 75; refine c4.out.mono ?_; rintro e W1 ⟨rfl, rfl⟩)
  refine ⟨rfl, .int .i64 wr, (fun V => V = w.drew), (fun V => V = w.drew), ?_, rfl, (fun _ h => h), (.inr (fun _ h => h)), ?_⟩
  · try simp only [Act.put, List.setIfInBounds_toArray, List.set_cons_succ, List.set_cons_zero]
  try simp only [Act.put, List.setIfInBounds_toArray, List.set_cons_succ, List.set_cons_zero]
  refine Pu.WalkM.make (by rfl) ?_
  intro V hV
  rw [hV]
  clear hV V
  go_wp2_with (go_at_call 75; refine c5.out.mono ?_; rintro e W2 ⟨rfl, rfl⟩)
  refine ⟨rfl, .int .i64 fl, (fun V => V = w.drew), (fun V => V = w.drew), ?_, rfl, (fun _ h => h), (.inr (fun _ h => h)), ?_⟩
  · try simp only [Act.put, List.setIfInBounds_toArray, List.set_cons_succ, List.set_cons_zero]
  try simp only [Act.put, List.setIfInBounds_toArray, List.set_cons_succ, List.set_cons_zero]
  iterate 2 (apply Pu.WalkM.on (by rfl)
             · intro V hV
               go_wp2_with fail
               refine ⟨rfl, ?_, rfl⟩
               try simp only [Act.put, List.setIfInBounds_toArray, List.set_cons_succ, List.set_cons_zero]
               rfl
             simp only [Act.put, List.setIfInBounds_toArray, List.set_cons_succ, List.set_cons_zero])
  refine Pu.WalkM.nil ?_
  intro V hV
  rw [hV]
  clear hV V
  go_wp2
  go_ret2
  exact ⟨rfl, hdr⟩
theorem counts_nil (w : World) : Calls Try.prog 48 #[.pointer none] w fun e w' => e = .returned (.tuple #[.int .i64 0, .int .i64 0]) ∧ w = w' := by
  have cM := Lib.hid (made_nil w)
  go_enter Try.func48, Try.ntmps48
  go_wp2_with fail
  refine cM.out.mono ?_
  rintro e W ⟨rfl, rfl⟩
  go_wp2
  go_ret2
  exact ⟨rfl, rfl⟩
end
end Se
end Go.Proofs.Yteiniahikhiadaa
