/-
  moves: the law's walks: all moves are gone over, in the document's order.
  moves: the law Packs.
  moves: the row Packs.
-/
import Derived.Test.YtdbkkldgobkjcaaGreatMz9
import Derived.Test.YtdbkkldgobkjcaaGreatMz8
import Derived.Test.YtdbkkldgobkjcaaGreatMz11
import Derived.Test.YtdbkkldgobkjcaaGreatMz10
import Derived.Test.YtdbkkldgobkjcaaGreatMz5
import Derived.Deep.DeepCutAuto
import Derived.Deep.CutBlock
import Derived.Lib.AppendStr

set_option linter.unusedVariables false
set_option linter.unusedSimpArgs false
namespace Go.Proofs.YtdbkkldgobkjcaaGreat
open Go.RowKit Go.Maps
namespace Mv
open It
attribute [local go_sem] Oper.semAt_some

/-- the cells of one of the document's moves -/
def CellsAt (w : World) (A : Option Addr) (j : Nat) (d : Way) (lv : Value) : Prop := ∃ b o, A = some ⟨b, o, none⟩ ∧
    w.cell? ⟨b, o + j * 5, none⟩ = some (.int .i64 d.mv) ∧ w.cell? ⟨b, o + j * 5 + 1, none⟩ = some (.int .i64 d.fr) ∧ w.cell? ⟨b, o + j * 5 + 2, none⟩ = some (.int .i64 d.to_) ∧ w.cell? ⟨b, o + j * 5 + 3, none⟩ = some lv ∧ w.cell? ⟨b, o + j * 5 + 4, none⟩ = some (.bool d.came)

set_option maxRecDepth 100000 in
set_option maxHeartbeats 8000000 in
theorem walks_calls (b mb xb base : Nat) (X : Nat → Prop) (ds : List Way) (es : List (Way × Value)) (w : World) (h : MvAt w b mb X ds) (hdoc : DocAt w xb base es) (he : es.map (·.1) = ds) (hbase : base ≤ w.heap.size) :
    Calls Tryz.prog 35 #[.pointer (some ⟨b, 0, none⟩), .pointer (some ⟨xb, 0, none⟩)] w fun e w' => e = .returned (.bool true) ∧ Below w.heap.size w w' := by
  have hen := eql_nil
  have hlen : es.length = ds.length := by rw [← he]; simp
  have hds256 := h.len
  obtain ⟨v, hx, hv⟩ := hdoc.ob
  have HNEST := Lib.hid hdoc.nest
  obtain ⟨A, c, rfl, hc1, hc2, -⟩ := (Sl.of_own hv).at_
  unfold maxLen at hc2
  refine (callsIn_wide (n := 6)).1 ?_
  refine callsIn_of_wp_marks Tryz.func35 rfl trivial ?_ rfl
  simp only [Tryz.ntmps35, List.size_toArray, List.length_cons, List.length_nil, Nat.reduceAdd, Nat.reduceSub, Array.replicate_succ, Array.replicate_zero, List.push_toArray, List.append_toArray, List.nil_append, List.cons_append]
  gi_wp2_with (refine ⟨trivial, ?_⟩; gi_at_call 55; refine (callsIn_wide.2 (all_calls _ _)).mono ?_; rintro e w' ⟨rfl, rfl⟩)
  have a1 := Below.refl w.heap.size w
  have b0 := Ob.new w 55 #[.pointer (some ⟨xb, 0, none⟩)]
  have a2 := a1.alloc (Nat.le_refl _) (.cells #[.pointer (some ⟨xb, 0, none⟩)] 55)
  have b1 := Ob.new (w.alloc (.cells #[.pointer (some ⟨xb, 0, none⟩)] 55)) 4 #[.bool false]
  have a3 := a2.alloc (by simp) (.cells #[.bool false] 4)
  have b2 := Ob.new ((w.alloc (.cells #[.pointer (some ⟨xb, 0, none⟩)] 55)).alloc (.cells #[.bool false] 4)) 53 #[.pointer (some ⟨b, 0, none⟩)]
  have hB3 := a3.alloc (by simp; omega) (.cells #[.pointer (some ⟨b, 0, none⟩)] 53)
  replace b0 := (b0.alloc (.cells #[.bool false] 4)).alloc (.cells #[.pointer (some ⟨b, 0, none⟩)] 53)
  replace b1 := b1.alloc (.cells #[.pointer (some ⟨b, 0, none⟩)] 53)
  simp only [World.size_alloc] at b1 b2
  have hsz3 : (((w.alloc (.cells #[.pointer (some ⟨xb, 0, none⟩)] 55)).alloc (.cells #[.bool false] 4)).alloc (.cells #[.pointer (some ⟨b, 0, none⟩)] 53)).heap.size = w.heap.size + 3 := by simp
  generalize (((w.alloc (.cells #[.pointer (some ⟨xb, 0, none⟩)] 55)).alloc (.cells #[.bool false] 4)).alloc (.cells #[.pointer (some ⟨b, 0, none⟩)] 53)) = w3 at *
  have HSZ3 := Lib.hid hsz3
  have hdr := hB3.drew
  have hM4 := h.same hdr
  have d0 : w3.drew.cell? ⟨w.heap.size, 0, none⟩ = some (.pointer (some ⟨xb, 0, none⟩)) := b0.cell (j := 0) rfl
  have x0 : w3.drew.cell? ⟨xb, 0, none⟩ = some (.slice A es.length c) := (hx.same hdr).cell (j := 0) rfl
  have cL := Lib.hid (len_calls b mb X ds w3.drew hM4)
  have hneq : ((ds.length : Int) != (es.length : Int)) = false := by rw [hlen]; simp
  have HLEN := Lib.hid hlen
  have HM4 := Lib.hid hM4
  have HX := Lib.hid hx
  have HV := Lib.hid hv
  have HDOC := Lib.hid hdoc
  have HB3 := Lib.hid hB3
  have H := Lib.hid h
  have HE := Lib.hid he
  clear a1 a2 a3 hsz3 hM4 hB3 hv hx hdoc hdr h he hlen
  refine wpIn_wide.2 ?_
  refine Pu.regionW (fun V => V = w3.drew) hmx (by kernel_rfl) (by kernel_rfl) rfl rfl ?_
  iterate 12 (first
    | (refine Pu.Walk.off (by rfl) ?_; simp only [Act.put, List.setIfInBounds_toArray, List.set_cons_succ, List.set_cons_zero])
    | (apply Pu.Walk.on (by rfl)
       · rintro V rfl
         go_wp2_with (go_at_call 57; refine cL.out.mono ?_; rintro e W' ⟨rfl, rfl⟩)
         refine ⟨rfl, ?_, rfl⟩
         try simp only [Act.put, List.setIfInBounds_toArray, List.set_cons_succ, List.set_cons_zero]
         rfl
       simp only [Act.put, List.setIfInBounds_toArray, List.set_cons_succ, List.set_cons_zero]))
  refine Pu.Walk.nil (fun V hV => ?_)
  rw [hV]
  clear hV V d0 x0 cL hneq hen
  gi_wp2
  have b4 : Ob (w3.alloc (.cells #[.int .i64 0] 3)).drew w3.heap.size 3 #[.int .i64 0] := Ob.new w3 3 #[.int .i64 0]
  have e0 : Ob ((w3.alloc (.cells #[.int .i64 0] 3)).drew) w.heap.size 55 #[.pointer (some ⟨xb, 0, none⟩)] := b0.alloc (.cells #[.int .i64 0] 3)
  have e1 : Ob ((w3.alloc (.cells #[.int .i64 0] 3)).drew) (w.heap.size + 1) 4 #[.bool false] := b1.alloc (.cells #[.int .i64 0] 3)
  have e2 : Ob ((w3.alloc (.cells #[.int .i64 0] 3)).drew) (w.heap.size + 1 + 1) 53 #[.pointer (some ⟨b, 0, none⟩)] := b2.alloc (.cells #[.int .i64 0] 3)
  have hB5 : Below w.heap.size w (w3.alloc (.cells #[.int .i64 0] 3)).drew := (HB3.out.alloc HB3.out.size (.cells #[.int .i64 0] 3)).drew
  rw [HSZ3.out] at b4
  have hM5 : MvAt ((w3.alloc (.cells #[.int .i64 0] 3)).drew) b mb (fun i => X i ∨ i = w.heap.size + 3) ds := H.out.more hB5 fun i hi => by
    have hs5 : ((w3.alloc (.cells #[.int .i64 0] 3)).drew).heap.size = w.heap.size + 4 := by show (w3.alloc (.cells #[.int .i64 0] 3)).heap.size = _; rw [World.size_alloc, HSZ3.out]
    rcases hi with hi | rfl
    · exact ⟨.inl hi, by have := H.out.xl i hi; omega⟩
    · exact ⟨.inr (by omega), by omega⟩
  have hs5 : ((w3.alloc (.cells #[.int .i64 0] 3)).drew).heap.size = w.heap.size + 4 := by show (w3.alloc (.cells #[.int .i64 0] 3)).heap.size = _; rw [World.size_alloc, HSZ3.out]
  clear b0 b1 b2
  generalize (w3.alloc (.cells #[.int .i64 0] 3)).drew = w5 at *
  obtain ⟨X5, hX5⟩ : ∃ X5 : Nat → Prop, X5 = fun i => X i ∨ i = w.heap.size + 3 := ⟨_, rfl⟩
  rw [← hX5] at hM5
  have hxs5 : ¬ X5 (w.heap.size + 1 + 1) := fun hi => by
    rw [hX5] at hi
    rcases hi with hi | hi
    · have := H.out.xl _ hi; omega
    · omega
  have hx3 : X5 (w.heap.size + 3) := by rw [hX5]; exact .inr rfl
  have HB5 := Lib.hid hB5
  clear hX5 hB5
  simp only [HSZ3.out]
  refine Rr.range_reads (n := 6) rfl (by omega) (gf := 97) rfl trivial (enters_of Tryz.func97 (by kernel_rfl) rfl)
    (all_reads 5 (by omega) b mb (w.heap.size + 1 + 1) X5 ds w5 hM5 e2 hxs5) (Below.refl _ _) (fun h k => h.trans k) (fun W l r r' _ h => KpX.loop h) rfl
    (fun pre W => Ob W w.heap.size 55 #[.pointer (some ⟨xb, 0, none⟩)] ∧ Ob W (w.heap.size + 1) 4 #[.bool false] ∧ Ob W (w.heap.size + 3) 3 #[.int .i64 pre.length] ∧ Below w.heap.size w5 W)
    (fun c pre W => False)
    (fun s A B row hs hg hr => ⟨ob_keep hs.1 hg (fun r e => (hr r e).2), ob_keep hs.2.1 hg (fun r e => (hr r e).2), ob_keep hs.2.2.1 hg (fun r e => (hr r e).2), ownFrom_below (B := w5.heap.size) (by omega) (by omega) s A B row hs.2.2.2 hg hr⟩)
    (fun c s A B row hs hg hr => hs.elim)
    ⟨e0, e1, b4, Below.refl _ _⟩ ?round ?done ?stop
  case stop => exact fun D c pre W _ _ h _ => h.elim
  case round =>
    rintro l pre ⟨dmv, dfr, dto, dl, dcame⟩ v W hl ⟨hb0, hb1, hb2, hB⟩ hpre ⟨sv, rfl, hsv⟩
    obtain ⟨As, cs, rfl, -⟩ := hsv.form
    dsimp only [wayV]
    have hn0 : pre.length < ds.length ∧ ds[pre.length]? = some ⟨dmv, dfr, dto, dl, dcame⟩ := by
      obtain ⟨r, hr⟩ := hpre
      rw [← hr]
      simp
    have hn : pre.length < es.length := by rw [HLEN.out]; exact hn0.1
    have hdn : es[pre.length].1 = ⟨dmv, dfr, dto, dl, dcame⟩ := by
      have h1 := hn0.2
      rw [← HE.out, List.getElem?_map, List.getElem?_eq_getElem hn] at h1
      simpa using h1
    have HN0 := Lib.hid hn0
    clear hn0 hpre
    gi_wp2
    have g1 := World.grownBy_alloc W (.cells #[.int .i64 dmv, .int .i64 dfr, .int .i64 dto, .slice As dl.length cs, .bool dcame] 108) none
    refine ⟨keeps_below _ ((Below.refl _ W).alloc (Nat.le_refl _) _), KpX.of_grown g1 (fun g e => by cases e), fun W2 hg2 o2 ho21 ho22 => ?_⟩
    have ho2 : ∃ o : Obj, (W.alloc (.cells #[.int .i64 dmv, .int .i64 dfr, .int .i64 dto, .slice As dl.length cs, .bool dcame] 108)).heap[l]? = some o ∧ o.isCells = false := ⟨o2, ho21, ho22⟩
    have hb8 := ob_keep (Ob.new W 108 #[.int .i64 dmv, .int .i64 dfr, .int .i64 dto, .slice As dl.length cs, .bool dcame]) hg2 (fun r e => by cases e; exact ho2)
    replace hb0 := ob_keep (hb0.alloc _) hg2 (fun r e => by cases e; exact ho2)
    replace hb1 := ob_keep (hb1.alloc _) hg2 (fun r e => by cases e; exact ho2)
    replace hb2 := ob_keep (hb2.alloc _) hg2 (fun r e => by cases e; exact ho2)
    replace hB : Below w.heap.size w5 W2 := (hB.alloc (by have := hB.size; omega) (.cells #[.int .i64 dmv, .int .i64 dfr, .int .i64 dto, .slice As dl.length cs, .bool dcame] 108)).grown hg2 (by have := hB.size; simp; omega) (fun k e => by cases e; omega)
    have hsl : ItemsAt W2 0 W2.heap.size (.slice As dl.length cs) dl := (sl_keep (Sl.below hsv ((Below.refl _ W).alloc (Nat.le_refl _) (.cells #[.int .i64 dmv, .int .i64 dfr, .int .i64 dto, .slice As dl.length cs, .bool dcame] 108))) hg2 (fun r e => by cases e; exact ho2) (by simp)).wide (Nat.zero_le _) (by have := hg2.size; simp at this; omega)
    have hW2l : W.heap.size < W2.heap.size := by have := hg2.size; simp at this; omega
    have hbw := HB5.out.trans hB
    obtain ⟨bo, o, rfl, -, hbo, c0, c1, c2, c3, c4⟩ := docAt_cell (Sl.below (Sl.of_own HV.out) hbw) hn
    have hbo2 : bo < W2.heap.size := by have := hbw.size; omega
    have hnest := HNEST.out es[pre.length] (List.getElem_mem hn)
    generalize es[pre.length] = pp at *
    obtain ⟨dd, lv⟩ := pp
    dsimp only at hdn hnest c0 c1 c2 c3 c4
    subst hdn
    dsimp only at hnest c0 c1 c2 c3 c4
    have hnW := (hnest.below (hbw.mono hbase)).wide (Nat.le_refl _) (Nat.le_trans hbase hbw.size)
    obtain ⟨Al, cl, rfl, -⟩ := hnest.form
    have hxW := HX.out.same hbw
    have hd : decide (es.length ≤ pre.length) = false := by simp; omega
    have cS := sameW_calls ⟨dmv, dfr, dto, dl, dcame⟩ ⟨dmv, dfr, dto, dl, dcame⟩ (.slice As dl.length cs) (.slice Al dl.length cl) W2.drew (hsl.mono (Below.refl _ W2).drew (Nat.le_refl _)) (hnW.mono (Below.refl _ W2).drew (Nat.le_refl _))
    rw [(sameW_iff _ _).2 rfl] at cS
    dsimp only [wayV] at cS
    have CS := Lib.hid cS
    have HBW := Lib.hid hB
    have l1 : (0 : Int) ≤ (pre.length : Int) := by omega
    have l2 : (pre.length : Int) < (es.length : Int) := by omega
    clear cS ho2 ho21 ho22 hsl hnW hnest hsv g1 hbw hg2 hB
    generalize hpl : pre.length = n at *
    have HPL := Lib.hid hpl
    clear hpl
    gi_wp2
    refine Pi.regionIn [(0, false), (1, false), (2, false), (3, false), (4, false), (5, false), (6, false), (7, false), (8, false), (9, false), (10, false), (11, false), (12, false), (13, false), (14, false), (15, false), (16, true), (17, false), (18, false)]
      (fun V => Ob V w.heap.size 55 #[.pointer (some ⟨xb, 0, none⟩)] ∧ Ob V (w.heap.size + 3) 3 #[.int .i64 n] ∧ Ob V W.heap.size 108 #[.int .i64 dmv, .int .i64 dfr, .int .i64 dto, .slice As dl.length cs, .bool dcame] ∧ Ob V xb 58 #[.slice (some ⟨bo, o, none⟩) es.length c] ∧ W2.heap.size ≤ V.heap.size ∧ Below W2.heap.size W2 V)
      hmx (by kernel_rfl) (by kernel_rfl) (by kernel_rfl) (by kernel_rfl) ⟨hb0, hb2, hb8, hxW, Nat.le_refl _, (Below.refl _ W2).drew⟩ rfl ?_
    simp only [Pu.named, List.filterMap_cons, List.filterMap_nil, List.getElem?_toArray, List.getElem?_cons_succ, List.getElem?_cons_zero, Option.map_some]
    iterate 16 (apply Pu.WalkM.on (by rfl)
                · rintro V ⟨k0, k2, k8, kx, ks, kb⟩
                  have z0 := k0.cell (j := 0) (v := .pointer (some ⟨xb, 0, none⟩)) rfl
                  have z2 := k2.cell (j := 0) (v := .int .i64 n) rfl
                  have zx := kx.cell (j := 0) (v := .slice (some ⟨bo, o, none⟩) es.length c) rfl
                  obtain ⟨y0, y1, y2, y3, y4⟩ := k8.five
                  have r0 := (kb.cell (p := ⟨bo, o + n * 5, none⟩) hbo2).trans c0
                  have r1 := (kb.cell (p := ⟨bo, o + n * 5 + 1, none⟩) hbo2).trans c1
                  have r2 := (kb.cell (p := ⟨bo, o + n * 5 + 2, none⟩) hbo2).trans c2
                  have r3 := (kb.cell (p := ⟨bo, o + n * 5 + 3, none⟩) hbo2).trans c3
                  have r4 := (kb.cell (p := ⟨bo, o + n * 5 + 4, none⟩) hbo2).trans c4
                  go_wp2_with fail
                  refine ⟨rfl, ?_, rfl⟩
                  try simp only [Act.put, List.setIfInBounds_toArray, List.set_cons_succ, List.set_cons_zero]
                  rfl
                simp only [Act.put, List.setIfInBounds_toArray, List.set_cons_succ, List.set_cons_zero])
    refine Pu.WalkM.make (by rfl) ?_
    intro V hV
    rw [hV]
    clear hV V
    go_wp2_with (go_at_call 76; refine CS.out.mono ?_; rintro e W3 ⟨rfl, hb3⟩)
    have hb3' : Below W2.heap.size W2 W3 := (Below.refl _ W2).drew.trans hb3
    refine ⟨rfl, .bool true, _, (fun V => V = W3), ?_, rfl, (fun V h => by rw [h]; exact ⟨hb0.same hb3', hb2.same hb3', hb8.same hb3', hxW.same hb3', hb3'.size, hb3'⟩), (.inr (fun _ h => h)), ?_⟩
    · simp only [Act.put, List.setIfInBounds_toArray, List.set_cons_succ, List.set_cons_zero]
    simp only [Act.put, List.setIfInBounds_toArray, List.set_cons_succ, List.set_cons_zero]
    iterate 02 (apply Pu.WalkM.on (by rfl)
                · rintro V -
                  go_wp2_with fail
                  refine ⟨rfl, ?_, rfl⟩
                  try simp only [Act.put, List.setIfInBounds_toArray, List.set_cons_succ, List.set_cons_zero]
                  rfl
                simp only [Act.put, List.setIfInBounds_toArray, List.set_cons_succ, List.set_cons_zero])
    refine Pu.WalkM.nil ?_
    intro V hV
    rw [hV]
    clear hV V
    refine Pi.OnlyN.out ?_
    have z2 := (hb2.same hb3').cell (j := 0) (v := .int .i64 n) rfl
    have f2 := (hb2.same hb3').frozen 0
    have hl256 : (n : Int) < 256 := by have := HLEN.out; omega
    clear c0 c1 c2 c3 c4 hd l1 l2
    gi_wp2
    have g3 := only_of_below hb3' none
    refine ⟨keeps_set (keeps_below _ hb3') _ _, (KpX.of_grown g3 (fun g e => by cases e)).trans (KpX.of_grown (grownBy_set W3 _ 0 _) (fun g e => by cases e; exact hx3)), ((hb0.same hb3').other (by omega) 0 _), ((hb1.same hb3').other (by omega) 0 _), ?_, ?_⟩
    · have := (hb2.same hb3').set 0 (.int .i64 ((n : Int) + 1))
      rw [List.length_append, HPL.out]
      exact this
    · exact (HBW.out.trans (hb3'.mono (by have := HBW.out.size; omega))).grown (grownBy_set W3 _ 0 _) (by have := HBW.out.size; have := hb3'.size; omega) (fun k e => by cases e; omega)
  case done =>
    rintro D xs W hD rfl ⟨hb0, hb1, hb2, hB⟩ hK
    gi_wp2
    have hbw := HB5.out.trans hB
    have hxW : Ob W.drew xb 58 #[.slice A es.length c] := HX.out.same hbw.drew
    have k0 : Ob W.drew w.heap.size 55 #[.pointer (some ⟨xb, 0, none⟩)] := hb0
    have k1 : Ob W.drew (w.heap.size + 1) 4 #[.bool false] := hb1
    have k2 : Ob W.drew (w.heap.size + 3) 3 #[.int .i64 xs.length] := hb2
    have hq : ((xs.length : Int) == (es.length : Int)) = true := by rw [HLEN.out]; simp
    have hBs := hB.size
    clear hb0 hb1 hb2
    refine wpIn_wide.2 ?_
    refine Pu.regionM [(0, false), (1, false), (2, false), (3, false), (4, false), (5, false), (6, false), (7, true)]
      (fun V => Ob V w.heap.size 55 #[.pointer (some ⟨xb, 0, none⟩)] ∧ Ob V (w.heap.size + 3) 3 #[.int .i64 xs.length] ∧ Ob V xb 58 #[.slice A es.length c])
      hmx (by kernel_rfl) (by kernel_rfl) (by kernel_rfl) ⟨k0, k2, hxW⟩ rfl ?_
    simp only [Pu.named, List.filterMap_cons, List.filterMap_nil, List.getElem?_toArray, List.getElem?_cons_succ, List.getElem?_cons_zero, Option.map_some]
    iterate 07 (apply Pu.WalkM.on (by rfl)
                · rintro V ⟨m0, m2, mx⟩
                  have z0 := m0.cell (j := 0) (v := .pointer (some ⟨xb, 0, none⟩)) rfl
                  have z2 := m2.cell (j := 0) (v := .int .i64 xs.length) rfl
                  have zx := mx.cell (j := 0) (v := .slice A es.length c) rfl
                  go_wp2_with fail
                  refine ⟨rfl, ?_, rfl⟩
                  try simp only [Act.put, List.setIfInBounds_toArray, List.set_cons_succ, List.set_cons_zero]
                  rfl
                simp only [Act.put, List.setIfInBounds_toArray, List.set_cons_succ, List.set_cons_zero])
    refine Pu.WalkM.make (by rfl) ?_
    intro V hV
    rw [hV]
    clear hV V
    have z1 := k1.cell (j := 0) (v := .bool false) rfl
    have f1 := k1.frozen 0
    go_wp2_with fail
    refine ⟨rfl, undef, (fun _ => True), (fun V => V = W.drew.setCell ⟨w.heap.size + 1, 0, none⟩ (.bool true)), rfl, rfl, (fun _ _ => trivial), (.inl (by kernel_rfl)), Pu.WalkM.nil ?_⟩
    intro V hV
    rw [hV]
    clear hV V
    simp only [Act.put]
    have hb22 := k1.set 0 (.bool true)
    have hBB := hB.drew.grown (grownBy_set W.drew (w.heap.size + 1) 0 (.bool true)) (by show w.heap.size ≤ W.heap.size; omega) (fun k e => by cases e; omega)
    have hK2 : (W.drew.setCell ⟨w.heap.size + 1, 0, none⟩ (.bool true)).heap[D]? = some (.deferred (some [])) := ((grownBy_set W.drew (w.heap.size + 1) 0 (.bool true)).block D (Array.getElem?_eq_some_iff.1 hK).1 (fun e => by cases e; omega)).trans hK
    clear z1 f1
    gi_wp2
    refine ⟨by simp, .inl ⟨_, _, rfl, run_takeDeferred hK2, ?_⟩⟩
    have c4 : ((W.setCell ⟨w.heap.size + 1, 0, none⟩ (.bool true)).drew.putObj D (.deferred none)).cell? ⟨w.heap.size + 1, 0, none⟩ = some (.bool true) := (boxed_end hb22 hK2).cell
    refine ⟨.bool true, ?_, rfl, below_end (HB5.out.trans hBB) (by omega) hK2⟩
    simp [results, Tryz.f35, go_sem, c4]
end Mv
end Go.Proofs.YtdbkkldgobkjcaaGreat

namespace Go.Proofs.YtdbkkldgobkjcaaGreat
open Go.RowKit Go.Maps
namespace Mv
open It Ce

theorem MvAt.map_block2 {w : World} {b mb : Nat} {X : Nat → Prop} {ds : List Way} (h : MvAt w b mb X ds) : ∀ cu fz, w.heap[mb]? ≠ some (.cells cu 108 fz) := by
  obtain ⟨m, hm, -⟩ := h.map
  obtain ⟨es, clock, hb, -⟩ := hm
  intro cu fz e
  rw [hb] at e
  cases e
/-- between two rounds -/
structure Mp (w : World) (b mb xb : Nat) (wr : World) (ds : List Way) (es : List (Way × Value)) : Prop where
  below : Below w.heap.size w wr
  mv : MvAt wr b mb (fun i => i = xb) ds
  doc : DocAt wr xb w.heap.size es
  map : es.map (·.1) = ds
  hm : w.heap.size ≤ mb
  hx : w.heap.size ≤ xb
section
variable {w : World} {b mb xb : Nat} {wr wr' : World} {ds ds' : List Way} {es es' : List (Way × Value)}
theorem Mp.same (h : Mp w b mb xb wr ds es) (hb : Below wr.heap.size wr wr') : Mp w b mb xb wr' ds es :=
  ⟨h.below.trans (hb.mono h.below.size), h.mv.same hb, h.doc.same hb h.below.size, h.map, h.hm, h.hx⟩
theorem Mp.sorted (h : Mp w b mb xb wr ds es) : Sorted (es.map (·.1)) := by rw [h.map]; exact h.mv.sorted
theorem Mp.okd (h : Mp w b mb xb wr ds es) : ∀ p ∈ es, OkW p.1 := fun p hp => h.mv.ok p.1 (by rw [← h.map]; exact List.mem_map.2 ⟨p, hp, rfl⟩)
/-- the document, behind a write of the program's -/
theorem Mp.doc1 (h : Mp w b mb xb wr ds es) (hg : wr.grownBy wr' (some mb)) : DocAt wr' xb w.heap.size es :=
  h.doc.kept hg (fun e => h.mv.nx.2 e.symm) h.below.size h.hm h.mv.map_block2
theorem Mp.below1 (h : Mp w b mb xb wr ds es) (hg : wr.grownBy wr' (some mb)) : Below w.heap.size w wr' :=
  h.below.grown hg h.below.size (fun g e => by cases e; exact h.hm)
theorem Mp.fin {wz : World} (h : Mp w b mb xb wr ds es) (hg : wr.grownBy wr' (some mb)) (hM : MvAt wr' b mb (fun i => i = xb) ds') (hg2 : wr'.grownBy wz (some xb)) (hD : DocAt wz xb w.heap.size es') (he : es'.map (·.1) = ds') : Mp w b mb xb wz ds' es' :=
  ⟨(h.below1 hg).grown hg2 (h.below1 hg).size (fun g e => by cases e; exact h.hx), hM.kept hg2 (fun g e => by cases e; exact .inl rfl), hD, he, h.hm, h.hx⟩
end

set_option maxRecDepth 100000 in
set_option maxHeartbeats 40000000 in
theorem packs_law (os : List OpV) (v : Value) (w : World) (hO : OpsAt w w.heap.size v os) (hok : ∀ o ∈ os, OkOp o) :
    Calls Tryz.prog 4 #[v] w fun e w' => e = .returned (.bool true) ∧ Below w.heap.size w w' := by
  obtain ⟨A, c, rfl, hc1, hc2⟩ := hO.form
  unfold maxLen at hc2
  have cL := Lib.hid lives_calls
  have hen := eql_nil
  go_enter Tryz.func4, Tryz.ntmps4
  go_wp2_with fail
  refine (new_calls w).mono ?_
  rintro e w1 ⟨⟨bI, mI, rfl, hlb, hlm, hM⟩, h1⟩
  replace hM := hM (fun _ => False) (fun _ h => h.elim)
  have hal := (Below.refl w1.heap.size w1).alloc (Nat.le_refl _) (.cells #[.slice none 0 0] 58)
  have hx2 := Ob.new w1 58 #[.slice none 0 0]
  have hM2 : MvAt (w1.alloc (.cells #[.slice none 0 0] 58)) bI mI (fun i => i = w1.heap.size) [] := hM.more hal fun i hi => ⟨.inr (by omega), by simp; omega⟩
  have hD2 : DocAt (w1.alloc (.cells #[.slice none 0 0] 58)) w1.heap.size w.heap.size [] := ⟨⟨_, hx2, World.ownsRow_nil _ _ _ _⟩, fun p hp => (by cases hp), by simp⟩
  have hMp : Mp w bI mI w1.heap.size (w1.alloc (.cells #[.slice none 0 0] 58)) [] [] := ⟨h1.trans (hal.mono h1.size), hM2, hD2, rfl, hlm, h1.size⟩
  clear hM hal hx2 h1 hM2 hD2
  go_wp2_with fail
  refine (cL.out _).mono ?_
  rintro e w3 ⟨rfl, h3⟩
  have HM3 := Lib.hid (hMp.same h3)
  clear hMp h3
  generalize w1.heap.size = xb at *
  clear hlb hlm
  go_wp2
  go_loopw [3, 5] (fun mp i wr => ∃ (k b mb : Nat) (ds : List Way) (es : List (Way × Value)), k ≤ os.length ∧ i = .int .i64 k ∧ mp = .pointer (some ⟨b, 0, none⟩) ∧ Mp w b mb xb wr ds es) (fun _ i _ => os.length - (intOf i).toNat)
  case atStart => exact ⟨0, bI, mI, [], [], by omega, rfl, rfl, HM3.out⟩
  case round =>
    clear HM3
    obtain ⟨k, b, mb, ds, es, hk, rfl, rfl, hP⟩ := hrel
    by_cases hlt : k < os.length ∧ k < 60
    · obtain ⟨hlt, h60⟩ := hlt
      obtain ⟨bo, po, lv, rfl, hbo, hIo, g0, g1, g2, g3, g4⟩ := hO.at_ hlt
      have hB := hP.below
      replace g0 := (hB.cell (p := ⟨bo, po + k * 5, none⟩) hbo).trans g0
      replace g1 := (hB.cell (p := ⟨bo, po + k * 5 + 1, none⟩) hbo).trans g1
      replace g2 := (hB.cell (p := ⟨bo, po + k * 5 + 2, none⟩) hbo).trans g2
      replace g3 := (hB.cell (p := ⟨bo, po + k * 5 + 3, none⟩) hbo).trans g3
      replace g4 := (hB.cell (p := ⟨bo, po + k * 5 + 4, none⟩) hbo).trans g4
      have hoo := hok _ (List.getElem_mem hlt)
      generalize os[k] = o at *
      obtain ⟨kd, mv, fr, to_, l⟩ := o
      dsimp only at hIo g0 g1 g2 g3 g4
      have hOK := Lib.hid hoo
      obtain ⟨Al, cl, rfl, hcl1, hcl2⟩ := hIo.form
      unfold maxLen at hcl2
      have hd : decide ((k : Int) < (os.length : Int)) = true := by simp; omega
      have hd60 : decide ((k : Int) < 60) = true := by simp; omega
      have hal1 := (Below.refl wr.heap.size wr).alloc (Nat.le_refl _) (.cells #[.int .i64 kd, .int .i64 mv, .int .i64 fr, .int .i64 to_, .slice Al l.length cl] 60)
      have HP := Lib.hid (hP.same hal1)
      have HI0 := Lib.hid (fun W (h : Below w.heap.size w W) => hIo.below h)
      have hO7 := Ob.new wr 60 #[.int .i64 kd, .int .i64 mv, .int .i64 fr, .int .i64 to_, .slice Al l.length cl]
      have hmb0 : mb < wr.heap.size := by obtain ⟨m, hm, -⟩ := hP.mv.map; exact hm.lt
      have hxb0 : xb < wr.heap.size := by obtain ⟨v, hx, -⟩ := hP.doc.ob; exact hx.lt
      clear hB hP hoo hIo hal1
      by_cases hlong : 100 < l.length
      · have hd3 : decide ((l.length : Int) > 100) = true := by simp; omega
        go_wp2
        exact ⟨⟨k + 1, b, mb, ds, es, by omega, by go_num, rfl, HP.out⟩, by simp [intOf]; omega⟩
      · have hd3 : decide ((l.length : Int) > 100) = false := by simp; omega
        obtain ⟨q0, q1, q2, q3, q4⟩ := hO7.five
        go_upto_block 2 with fail
        have hmb : mb < wr.heap.size := hmb0
        have hxl0 : xb < wr.heap.size := hxb0
        go_cut [] (fun W => ∃ ds2 es2, Mp w b mb xb W ds2 es2)
        case first =>
          by_cases e1 : kd = 1
          · subst e1
            have cC := Lib.hid (go_calls mv fr to_ l (.slice Al l.length cl) b mb _ ds (wr.alloc (.cells #[.int .i64 1, .int .i64 mv, .int .i64 fr, .int .i64 to_, .slice Al l.length cl] 60)) HP.out.mv ((HI0.out _ HP.out.below).wide (Nat.zero_le _) HP.out.below.size) hOK.out.l hOK.out.mv.1 hOK.out.mv.2)
            generalize hcR : goOf ds mv fr to_ l = R at *
            obtain ⟨ds2, ac⟩ := R
            dsimp only at cC
            have HCR := Lib.hid hcR
            clear hcR
            go_wp2_with fail
            refine cC.out.mono ?_
            rintro e W1 ⟨rfl, hM1, hg1⟩
            have hO71 := hO7.kept hg1 (fun e => by have := Option.some.inj e; omega)
            have hB1 := HP.out.below1 hg1
            have cR := refgo_calls mv fr to_ l (.slice Al l.length cl) xb w.heap.size es W1 (HP.out.doc1 hg1) HP.out.sorted hB1.size HP.out.hx (HI0.out _ hB1) hOK.out.l
            rw [HP.out.map, HCR.out] at cR
            dsimp only at cR
            have CR := Lib.hid cR
            clear cR cC q0 q1 q2 q3 q4
            obtain ⟨q0, q1, q2, q3, q4⟩ := hO71.five
            go_wp2_with fail
            refine CR.out.mono ?_
            rintro e W2 ⟨es2, rfl, hes2, hD2, hg2⟩
            have HPF := Lib.hid (HP.out.fin hg1 hM1 hg2 hD2 hes2)
            clear hM1 hg1 hD2 hg2 hes2 hB1 hO71 q0 q1 q2 q3 q4 CR hO7
            go_wp2_with fail
            go_meet
            exact ⟨ds2, es2, HPF.out⟩
          · have e1b : (kd == 1) = false := by simpa using e1
            by_cases e2 : kd = 2
            · subst e2
              clear e1 e1b
              have cC := Lib.hid (come_calls mv b mb _ ds (wr.alloc (.cells #[.int .i64 2, .int .i64 mv, .int .i64 fr, .int .i64 to_, .slice Al l.length cl] 60)) HP.out.mv hOK.out.mv.1 hOK.out.mv.2)
              generalize hcR : comeOf ds mv = R at *
              obtain ⟨ds2, al, ac⟩ := R
              dsimp only at cC
              have HCR := Lib.hid hcR
              clear hcR
              go_wp2_with fail
              refine cC.out.mono ?_
              rintro e W1 ⟨⟨av, rfl, -⟩, hM1, hg1⟩
              have hO71 := hO7.kept hg1 (fun e => by have := Option.some.inj e; omega)
              have hB1 := HP.out.below1 hg1
              have cR := refcome_calls mv xb w.heap.size es W1 (HP.out.doc1 hg1) HP.out.sorted hB1.size HP.out.hx
              rw [HP.out.map, HCR.out] at cR
              dsimp only at cR
              have CR := Lib.hid cR
              clear cR cC q0 q1 q2 q3 q4
              obtain ⟨q0, q1, q2, q3, q4⟩ := hO71.five
              go_wp2_with fail
              refine CR.out.mono ?_
              rintro e W2 ⟨es2, lv2, rfl, -, hes2, hD2, hg2⟩
              have HPF := Lib.hid (HP.out.fin hg1 hM1 hg2 hD2 hes2)
              clear hM1 hg1 hD2 hg2 hes2 hB1 hO71 q0 q1 q2 q3 q4 CR hO7
              go_wp2_with fail
              go_meet
              exact ⟨ds2, es2, HPF.out⟩
            · have e2b : (kd == 2) = false := by simpa using e2
              by_cases e3 : kd = 3
              · subst e3
                clear e1 e1b e2 e2b
                have cC := Lib.hid (forget_calls mv b mb _ ds (wr.alloc (.cells #[.int .i64 3, .int .i64 mv, .int .i64 fr, .int .i64 to_, .slice Al l.length cl] 60)) HP.out.mv hOK.out.mv.1 hOK.out.mv.2)
                generalize hcR : forgetOf ds mv = R at *
                obtain ⟨ds2, ac⟩ := R
                dsimp only at cC
                have HCR := Lib.hid hcR
                clear hcR
                go_wp2_with fail
                refine cC.out.mono ?_
                rintro e W1 ⟨rfl, hM1, hg1⟩
                have hO71 := hO7.kept hg1 (fun e => by have := Option.some.inj e; omega)
                have hB1 := HP.out.below1 hg1
                have cR := refforget_calls mv xb w.heap.size es W1 (HP.out.doc1 hg1) HP.out.sorted hB1.size HP.out.hx
                rw [HP.out.map, HCR.out] at cR
                dsimp only at cR
                have CR := Lib.hid cR
                clear cR cC q0 q1 q2 q3 q4
                obtain ⟨q0, q1, q2, q3, q4⟩ := hO71.five
                go_wp2_with fail
                refine CR.out.mono ?_
                rintro e W2 ⟨es2, rfl, hes2, hD2, hg2⟩
                have HPF := Lib.hid (HP.out.fin hg1 hM1 hg2 hD2 hes2)
                clear hM1 hg1 hD2 hg2 hes2 hB1 hO71 q0 q1 q2 q3 q4 CR hO7
                go_wp2_with fail
                go_meet
                exact ⟨ds2, es2, HPF.out⟩
              · have e3b : (kd == 3) = false := by simpa using e3
                clear e1 e2 e3
                go_wp2_with fail
                go_meet
                exact ⟨ds, es, HP.out⟩
        case rest =>
          obtain ⟨ds2, es2, hP⟩ := hcut
          clear HP q0 q1 q2 q3 q4 hO7 g0 g1 g2 g3 g4
          have cP := Lib.hid (pack_calls b mb _ ds2 _ hP.mv)
          have hok2 := hP.mv.ok
          have hso2 := hP.mv.sorted
          have hle2 := hP.mv.len
          have hpl := packW_len (ds := ds2) (fun d hd => (hok2 d hd).l)
          have HUP := Lib.hid (unpack_pack hok2 hso2 hle2)
          have HP := Lib.hid hP
          clear hP hok2 hso2
          go_wp2_with fail
          refine cP.out.mono ?_
          rintro e W1 ⟨⟨bv, rfl, hbv⟩, hb1⟩
          have hP1 := HP.out.same hb1
          have hB1 : BytesAt W1 0 W1.heap.size bv (packW ds2) := BytesAt.all hbv
          obtain ⟨Ab, cb, rfl, -⟩ := hB1.form
          have cU := unpack_calls (packW ds2) _ W1 hB1 (by omega)
          rw [HUP.out] at cU
          have CU := Lib.hid cU
          have HB1 := Lib.hid hB1
          clear cU hbv hb1 cP HP HUP hB1
          go_wp2_with fail
          refine CU.out.mono ?_
          rintro e W2 ⟨⟨b2, mb2, rfl, hM2⟩, hb2⟩
          have hPa := hP1.same hb2
          have hmb2 : w.heap.size ≤ mb2 := by
            have := (hM2 (fun i => i < w.heap.size) (fun i hi => by have := hP1.below.size; omega)).nx.2
            omega
          have hxl : xb < W1.heap.size := by obtain ⟨v, hx, -⟩ := hP1.doc.ob; exact hx.lt
          have hPn : Mp w b2 mb2 xb W2 ds2 es2 := ⟨hPa.below, hM2 (fun i => i = xb) (fun i hi => by omega), hPa.doc, hPa.map, hmb2, hPa.hx⟩
          obtain ⟨vx, hxx, hvx⟩ := hPn.doc.ob
          obtain ⟨Ax, cx, rfl, hcx1, hcx2, -⟩ := (Sl.of_own hvx).at_
          have hBW := HB1.out.mono hb2 hb2.size
          have HBB := Lib.hid (fun V (hb : Below W2.heap.size W2 V) => run_string_at (P := Tryz.prog) (w := V) (dst := 9) Tryz.underlying65 Tryz.underlying5 Tryz.underlying9 (hBW.below hb))
          have hdr := (Below.refl W2.heap.size W2).drew
          have cR := refpack_calls xb es2 Ax cx W2.drew hxx (((Sl.of_own hvx).wide (Nat.zero_le _) (Nat.le_refl _)).below hdr) (fun p hp => ((hPn.doc.nest p hp).below (hdr.mono hPn.below.size)).wide (Nat.le_refl _) hPn.below.size) hPn.okd hPn.doc.len
          rw [hPn.map] at cR
          have CR := Lib.hid cR
          have HPN := Lib.hid hPn
          have cWk := Lib.hid (fun V (hb : Below W2.heap.size W2 V) => walks_calls b2 mb2 xb w.heap.size _ ds2 es2 V (HPN.out.same hb).mv (HPN.out.same hb).doc HPN.out.map (HPN.out.same hb).below.size)
          have HFIN := Lib.hid (fun V (hb : Below W2.heap.size W2 V) => show (∃ (k' b' mb' : Nat) (ds' : List Way) (es' : List (Way × Value)), k' ≤ os.length ∧ Value.int .i64 ((k : Int) + 1) = .int .i64 k' ∧ Value.pointer (some ⟨b2, 0, none⟩) = .pointer (some ⟨b', 0, none⟩) ∧ Mp w b' mb' xb V ds' es') from ⟨k + 1, b2, mb2, ds2, es2, by omega, by go_num, rfl, HPN.out.same hb⟩)
          clear hPa hP1 hM2 hb2 hBW HB1 CU cR hPn hvx hxl hmb2
          go_wp2_with fail
          refine Pu.regionM [(0, false), (1, false), (2, false), (3, true), (4, false), (5, false), (6, false), (7, false), (8, false), (9, false), (10, false), (11, false), (12, false), (13, false), (14, false), (15, false), (16, false), (17, true), (18, false), (19, false)] (fun V => Below W2.heap.size W2 V) hmx (by kernel_rfl) (by kernel_rfl) (by kernel_rfl) hdr rfl ?_
          simp only [Pu.named, List.filterMap_cons, List.filterMap_nil, List.getElem?_toArray, List.getElem?_cons_succ, List.getElem?_cons_zero, Option.map_some]
          iterate 3 (apply Pu.WalkM.on (by rfl)
                     · intro V hV
                       have hcv := HBB.out V hV
                       go_wp2_with fail
                       refine ⟨rfl, ?_, rfl⟩
                       try simp only [Act.put, List.setIfInBounds_toArray, List.set_cons_succ, List.set_cons_zero]
                       rfl
                     simp only [Act.put, List.setIfInBounds_toArray, List.set_cons_succ, List.set_cons_zero])
          refine Pu.WalkM.make (by rfl) ?_
          intro V hV
          rw [hV]
          clear hV V
          go_wp2_with (go_at_call 34; refine CR.out.mono ?_; rintro e W3 ⟨⟨ru, rfl, hru⟩, hb3⟩)
          have hn3 := hdr.trans hb3
          obtain ⟨Ar, cr, rfl, -⟩ := hru.form
          have HRB := Lib.hid (fun V (hb : Below W3.heap.size W3 V) => run_string_at (P := Tryz.prog) (w := V) (dst := 9) Tryz.underlying65 Tryz.underlying5 Tryz.underlying9 (hru.below hb))
          refine ⟨rfl, .slice Ar (packW ds2).length cr, (fun V => Below W3.heap.size W3 V), (fun V => V = W3), ?_, rfl, (fun V h => by rw [h]; exact Below.refl _ _), (.inr (fun V h => hn3.trans (h.mono hn3.size))), ?_⟩
          · try simp only [Act.put, List.setIfInBounds_toArray, List.set_cons_succ, List.set_cons_zero]
          try simp only [Act.put, List.setIfInBounds_toArray, List.set_cons_succ, List.set_cons_zero]
          generalize hsb : (⟨(packW ds2).toArray⟩ : ByteArray) = sb at *
          iterate 13 (first
                      | (refine Pu.WalkM.off (by rfl) ?_; simp only [Act.put, List.setIfInBounds_toArray, List.set_cons_succ, List.set_cons_zero])
                      | (apply Pu.WalkM.on (by rfl)
                         · intro V hV
                           have hcv := HRB.out V hV
                           go_wp2_with fail
                           refine ⟨rfl, ?_, rfl⟩
                           try simp only [Act.put, List.setIfInBounds_toArray, List.set_cons_succ, List.set_cons_zero]
                           rfl
                         simp only [Act.put, List.setIfInBounds_toArray, List.set_cons_succ, List.set_cons_zero]))
          refine Pu.WalkM.make (by rfl) ?_
          intro V hV
          rw [hV]
          clear hV V
          go_wp2_with (go_at_call 35; refine (cWk.out _ hn3).mono ?_; rintro e W4 ⟨rfl, hb4⟩)
          have hn4 := hn3.trans (hb4.mono hn3.size)
          refine ⟨rfl, .bool true, (fun V => Below W3.heap.size W3 V), (fun V => V = W4), ?_, rfl, (fun V h => by rw [h]; exact hb4), (.inr (fun _ h => h)), ?_⟩
          · try simp only [Act.put, List.setIfInBounds_toArray, List.set_cons_succ, List.set_cons_zero]
          try simp only [Act.put, List.setIfInBounds_toArray, List.set_cons_succ, List.set_cons_zero]
          iterate 2 (apply Pu.WalkM.on (by rfl)
                     · intro V hV
                       go_wp2_with fail
                       refine ⟨rfl, ?_, rfl⟩
                       try simp only [Act.put, List.setIfInBounds_toArray, List.set_cons_succ, List.set_cons_zero]
                       rfl
                     simp only [Act.put, List.setIfInBounds_toArray, List.set_cons_succ, List.set_cons_zero])
          refine Pu.WalkM.nil ?_
          intro V hV
          rw [hV]
          clear hV V
          have HF := Lib.hid (HFIN.out _ hn4)
          go_wp2
          exact ⟨HF.out, by simp [intOf]; omega⟩
    · have HB := Lib.hid hP.below
      clear hP
      rcases Nat.lt_or_ge k os.length with h1 | h1
      · have hd : decide ((k : Int) < (os.length : Int)) = true := by simp; omega
        have hd60 : decide ((k : Int) < 60) = false := by simp; omega
        clear hlt
        go_wp2
        go_ret
        exact ⟨rfl, HB.out⟩
      · have hd : decide ((k : Int) < (os.length : Int)) = false := by simp; omega
        clear hlt
        go_wp2
        go_ret
        exact ⟨rfl, HB.out⟩
end Mv
end Go.Proofs.YtdbkkldgobkjcaaGreat

namespace Go.Proofs.YtdbkkldgobkjcaaGreat
open Go.ChangeShapes Go.WideShapes Go.ChangeAt Go.RowKit
namespace Mv
set_option maxRecDepth 100000 in
theorem movePacks_lifted (os : Os) (started : os.Started) (H : Type) (enc : TypeId × Value → H) :
    ReturnsInHanded {} Tryz.checked os 4 .any (Rows.movePacksSpec.pre6 enc Tryz.prog Tryz.f4 Rows.movePacksRow.domain false) (Rows.movePacksSpec.post enc Tryz.prog Tryz.f4 false true false false) := by
  refine returnsInHanded_of_change (C := Tryz.checked) own started (by kernel_rfl) Tryz.func4
    (ChangeSpec.witness6 (enc := enc) (C := Tryz.checked) false ⟨#[], #[.slice none 0 0], []⟩ 8 (by kernel_rfl) (by kernel_rfl) (by kernel_rfl) (by kernel_rfl)) ?_
  intro W base args ds gs before hval0 hW _ _
  have hval : ∀ (j : Nat) t v, Tryz.f4.params[j]? = some t → args[j]? = some v → Value.okWide Tryz.prog W .any base t v := hval0
  obtain ⟨p, q, hA0, hV, hps, hfz, hnd⟩ := id hW
  have hA : DataW.TrodAll enc Tryz.prog W 0 (fun _ => true) true Tryz.f4.params.toList args.toList ds p := hA0
  rw [Tryz.params4] at hA hval
  obtain ⟨v0, vs0, d0, ds0, p0, q0, hargs, rfl, rfl, h0, r0⟩ := trodAll_cons hA
  obtain ⟨rfl, rfl, rfl⟩ := trodAll_nil r0
  obtain rfl : args = #[v0] := by cases args; simp_all
  obtain ⟨rfl, rfl⟩ := trodVars_none hV
  obtain ⟨os, hos, fos, dos⟩ := Mv.open_ops (hval 0 52 v0 rfl rfl) h0
  refine (packs_law os v0 W hos fos).mono fun e W' ⟨he, hb⟩ => ?_
  subst he
  exact ⟨_, rfl, law_post laidOut (by kernel_rfl) rfl Tryz.underlying4 rfl hW rfl hb⟩

theorem movePacks_holds : Rows.MovePacksSaid :=
  OpenClaim.holds_of_wide 4 Tryz.f4 rfl rfl rfl rfl rfl rfl rfl ⟨rfl, rfl, rfl, rfl, rfl⟩ rfl rfl rfl rfl rfl (by kernel_rfl) Tryz.func4 (by kernel_rfl)
    (of_decide_eq_true (by kernel_rfl)) (by unfold Func.isWrapper; first | (rw [if_pos (by decide +kernel)]; kernel_rfl) | (rw [if_neg (by decide +kernel)]; exact ⟨rfl, rfl⟩))
    (fun os started H enc _ => movePacks_lifted os started H enc)

end Mv
end Go.Proofs.YtdbkkldgobkjcaaGreat
