/-
  moves: the law's walks: all moves are gone over, in the document's order.
-/
import Derived.Test.YtdbkkldgobkjcaaMvP
import Derived.Test.YtdbkkldgobkjcaaMvF
import Derived.Test.YtdbkkldgobkjcaaPi
namespace Go.Proofs.Ytdbkkldgobkjcaa
open Go.RowKit Go.Maps
namespace Mv
open It
attribute [local go_sem] Oper.semAt_some

/-- the cells of one of the document's moves -/
def CellsAt (w : World) (A : Option Addr) (j : Nat) (d : Way) (lv : Value) : Prop := ∃ b o, A = some ⟨b, o, none⟩ ∧
    w.cell? ⟨b, o + j * 5, none⟩ = some (.int .i64 d.mv) ∧ w.cell? ⟨b, o + j * 5 + 1, none⟩ = some (.int .i64 d.fr) ∧ w.cell? ⟨b, o + j * 5 + 2, none⟩ = some (.int .i64 d.to_) ∧ w.cell? ⟨b, o + j * 5 + 3, none⟩ = some lv ∧ w.cell? ⟨b, o + j * 5 + 4, none⟩ = some (.bool d.came)

set_option maxRecDepth 100000 in
set_option maxHeartbeats 8000000 in
theorem walks_calls (b mb xb base : Nat) (X : Nat → Prop) (ds : List Way) (es : List (Way × Value)) (w : World) (h : MvAt w b mb X ds) (hdoc : DocAt w xb base es) (he : es.map (·.1) = ds) (hbase : base ≤ w.heap.size) :
    Calls Try.prog 24 #[.pointer (some ⟨b, 0, none⟩), .pointer (some ⟨xb, 0, none⟩)] w fun e w' => e = .returned (.bool true) ∧ Below w.heap.size w w' := by
  have hen := eql_nil
  have hlen : es.length = ds.length := by rw [← he]; simp
  have hds256 := h.len
  obtain ⟨v, hx, hv⟩ := hdoc.ob
  have HNEST := Lib.hid hdoc.nest
  obtain ⟨A, c, rfl, hc1, hc2, -⟩ := (Sl.of_own hv).at_
  unfold maxLen at hc2
  refine (callsIn_wide (n := 6)).1 ?_
  refine callsIn_of_wp_marks Try.func24 rfl trivial ?_ rfl
  simp only [Try.ntmps24, List.size_toArray, List.length_cons, List.length_nil, Nat.reduceAdd, Nat.reduceSub, Array.replicate_succ, Array.replicate_zero, List.push_toArray, List.append_toArray, List.nil_append, List.cons_append]
  gi_wp2_with (refine ⟨trivial, ?_⟩; gi_at_call 26; refine (callsIn_wide.2 (all_calls _ _)).mono ?_; rintro e w' ⟨rfl, rfl⟩)
  have a1 := Below.refl w.heap.size w
  have b0 := Ob.new w 25 #[.pointer (some ⟨xb, 0, none⟩)]
  have a2 := a1.alloc (Nat.le_refl _) (.cells #[.pointer (some ⟨xb, 0, none⟩)] 25)
  have b1 := Ob.new (w.alloc (.cells #[.pointer (some ⟨xb, 0, none⟩)] 25)) 4 #[.bool false]
  have a3 := a2.alloc (by simp) (.cells #[.bool false] 4)
  have b2 := Ob.new ((w.alloc (.cells #[.pointer (some ⟨xb, 0, none⟩)] 25)).alloc (.cells #[.bool false] 4)) 23 #[.pointer (some ⟨b, 0, none⟩)]
  have hB3 := a3.alloc (by simp; omega) (.cells #[.pointer (some ⟨b, 0, none⟩)] 23)
  replace b0 := (b0.alloc (.cells #[.bool false] 4)).alloc (.cells #[.pointer (some ⟨b, 0, none⟩)] 23)
  replace b1 := b1.alloc (.cells #[.pointer (some ⟨b, 0, none⟩)] 23)
  simp only [World.size_alloc] at b1 b2
  have hsz3 : (((w.alloc (.cells #[.pointer (some ⟨xb, 0, none⟩)] 25)).alloc (.cells #[.bool false] 4)).alloc (.cells #[.pointer (some ⟨b, 0, none⟩)] 23)).heap.size = w.heap.size + 3 := by simp
  generalize (((w.alloc (.cells #[.pointer (some ⟨xb, 0, none⟩)] 25)).alloc (.cells #[.bool false] 4)).alloc (.cells #[.pointer (some ⟨b, 0, none⟩)] 23)) = w3 at *
  have HSZ3 := Lib.hid hsz3
  have hdr := hB3.drew
  have hM4 := h.same hdr
  have d0 : w3.drew.cell? ⟨w.heap.size, 0, none⟩ = some (.pointer (some ⟨xb, 0, none⟩)) := b0.cell (j := 0) rfl
  have x0 : w3.drew.cell? ⟨xb, 0, none⟩ = some (.slice A es.length c) := (hx.same hdr).cell (j := 0) rfl
  have cL := Lib.hid (len_calls b mb X ds w3.drew hM4)
  have hneq : ((ds.length : Int) != (es.length : Int)) = false := by rw [hlen]; simp
  have HLEN := Lib.hid hlen
  have HM4 := Lib.hid hM4
  have HX := Lib.hid hx
  have HV := Lib.hid hv
  have HDOC := Lib.hid hdoc
  have HB3 := Lib.hid hB3
  have H := Lib.hid h
  have HE := Lib.hid he
  clear a1 a2 a3 hsz3 hM4 hB3 hv hx hdoc hdr h he hlen
  refine wpIn_wide.2 ?_
  refine Pu.regionW (fun V => V = w3.drew) hmx (by kernel_rfl) (by kernel_rfl) rfl rfl ?_
  iterate 12 (first
    | (refine Pu.Walk.off (by rfl) ?_; simp only [Act.put, List.setIfInBounds_toArray, List.set_cons_succ, List.set_cons_zero])
    | (apply Pu.Walk.on (by rfl)
       · rintro V rfl
         go_wp2_with (go_at_call 27; refine cL.out.mono ?_; rintro e W' ⟨rfl, rfl⟩)
         refine ⟨rfl, ?_, rfl⟩
         try simp only [Act.put, List.setIfInBounds_toArray, List.set_cons_succ, List.set_cons_zero]
         rfl
       simp only [Act.put, List.setIfInBounds_toArray, List.set_cons_succ, List.set_cons_zero]))
  refine Pu.Walk.nil (fun V hV => ?_)
  rw [hV]
  clear hV V d0 x0 cL hneq hen
  gi_wp2
  have b4 : Ob (w3.alloc (.cells #[.int .i64 0] 3)).drew w3.heap.size 3 #[.int .i64 0] := Ob.new w3 3 #[.int .i64 0]
  have e0 : Ob ((w3.alloc (.cells #[.int .i64 0] 3)).drew) w.heap.size 25 #[.pointer (some ⟨xb, 0, none⟩)] := b0.alloc (.cells #[.int .i64 0] 3)
  have e1 : Ob ((w3.alloc (.cells #[.int .i64 0] 3)).drew) (w.heap.size + 1) 4 #[.bool false] := b1.alloc (.cells #[.int .i64 0] 3)
  have e2 : Ob ((w3.alloc (.cells #[.int .i64 0] 3)).drew) (w.heap.size + 1 + 1) 23 #[.pointer (some ⟨b, 0, none⟩)] := b2.alloc (.cells #[.int .i64 0] 3)
  have hB5 : Below w.heap.size w (w3.alloc (.cells #[.int .i64 0] 3)).drew := (HB3.out.alloc HB3.out.size (.cells #[.int .i64 0] 3)).drew
  rw [HSZ3.out] at b4
  have hM5 : MvAt ((w3.alloc (.cells #[.int .i64 0] 3)).drew) b mb (fun i => X i ∨ i = w.heap.size + 3) ds := H.out.more hB5 fun i hi => by
    have hs5 : ((w3.alloc (.cells #[.int .i64 0] 3)).drew).heap.size = w.heap.size + 4 := by show (w3.alloc (.cells #[.int .i64 0] 3)).heap.size = _; rw [World.size_alloc, HSZ3.out]
    rcases hi with hi | rfl
    · exact ⟨.inl hi, by have := H.out.xl i hi; omega⟩
    · exact ⟨.inr (by omega), by omega⟩
  have hs5 : ((w3.alloc (.cells #[.int .i64 0] 3)).drew).heap.size = w.heap.size + 4 := by show (w3.alloc (.cells #[.int .i64 0] 3)).heap.size = _; rw [World.size_alloc, HSZ3.out]
  clear b0 b1 b2
  generalize (w3.alloc (.cells #[.int .i64 0] 3)).drew = w5 at *
  obtain ⟨X5, hX5⟩ : ∃ X5 : Nat → Prop, X5 = fun i => X i ∨ i = w.heap.size + 3 := ⟨_, rfl⟩
  rw [← hX5] at hM5
  have hxs5 : ¬ X5 (w.heap.size + 1 + 1) := fun hi => by
    rw [hX5] at hi
    rcases hi with hi | hi
    · have := H.out.xl _ hi; omega
    · omega
  have hx3 : X5 (w.heap.size + 3) := by rw [hX5]; exact .inr rfl
  have HB5 := Lib.hid hB5
  clear hX5 hB5
  simp only [HSZ3.out]
  refine Rr.range_reads (n := 6) rfl (by omega) (gf := 47) rfl trivial (enters_of Try.func47 (by kernel_rfl) rfl)
    (all_reads 5 (by omega) b mb (w.heap.size + 1 + 1) X5 ds w5 hM5 e2 hxs5) (Below.refl _ _) (fun h k => h.trans k) (fun W l r r' _ h => KpX.loop h) rfl
    (fun pre W => Ob W w.heap.size 25 #[.pointer (some ⟨xb, 0, none⟩)] ∧ Ob W (w.heap.size + 1) 4 #[.bool false] ∧ Ob W (w.heap.size + 3) 3 #[.int .i64 pre.length] ∧ Below w.heap.size w5 W)
    (fun c pre W => False)
    (fun s A B row hs hg hr => ⟨ob_keep hs.1 hg (fun r e => (hr r e).2), ob_keep hs.2.1 hg (fun r e => (hr r e).2), ob_keep hs.2.2.1 hg (fun r e => (hr r e).2), ownFrom_below (B := w5.heap.size) (by omega) (by omega) s A B row hs.2.2.2 hg hr⟩)
    (fun c s A B row hs hg hr => hs.elim)
    ⟨e0, e1, b4, Below.refl _ _⟩ ?round ?done ?stop
  case stop => exact fun D c pre W _ _ h _ => h.elim
  case round =>
    rintro l pre ⟨dmv, dfr, dto, dl, dcame⟩ v W hl ⟨hb0, hb1, hb2, hB⟩ hpre ⟨sv, rfl, hsv⟩
    obtain ⟨As, cs, rfl, -⟩ := hsv.form
    dsimp only [wayV]
    have hn0 : pre.length < ds.length ∧ ds[pre.length]? = some ⟨dmv, dfr, dto, dl, dcame⟩ := by
      obtain ⟨r, hr⟩ := hpre
      rw [← hr]
      simp
    have hn : pre.length < es.length := by rw [HLEN.out]; exact hn0.1
    have hdn : es[pre.length].1 = ⟨dmv, dfr, dto, dl, dcame⟩ := by
      have h1 := hn0.2
      rw [← HE.out, List.getElem?_map, List.getElem?_eq_getElem hn] at h1
      simpa using h1
    have HN0 := Lib.hid hn0
    clear hn0 hpre
    gi_wp2
    have g1 := World.grownBy_alloc W (.cells #[.int .i64 dmv, .int .i64 dfr, .int .i64 dto, .slice As dl.length cs, .bool dcame] 42) none
    refine ⟨keeps_below _ ((Below.refl _ W).alloc (Nat.le_refl _) _), KpX.of_grown g1 (fun g e => by cases e), fun W2 hg2 o2 ho21 ho22 => ?_⟩
    have ho2 : ∃ o : Obj, (W.alloc (.cells #[.int .i64 dmv, .int .i64 dfr, .int .i64 dto, .slice As dl.length cs, .bool dcame] 42)).heap[l]? = some o ∧ o.isCells = false := ⟨o2, ho21, ho22⟩
    have hb8 := ob_keep (Ob.new W 42 #[.int .i64 dmv, .int .i64 dfr, .int .i64 dto, .slice As dl.length cs, .bool dcame]) hg2 (fun r e => by cases e; exact ho2)
    replace hb0 := ob_keep (hb0.alloc _) hg2 (fun r e => by cases e; exact ho2)
    replace hb1 := ob_keep (hb1.alloc _) hg2 (fun r e => by cases e; exact ho2)
    replace hb2 := ob_keep (hb2.alloc _) hg2 (fun r e => by cases e; exact ho2)
    replace hB : Below w.heap.size w5 W2 := (hB.alloc (by have := hB.size; omega) (.cells #[.int .i64 dmv, .int .i64 dfr, .int .i64 dto, .slice As dl.length cs, .bool dcame] 42)).grown hg2 (by have := hB.size; simp; omega) (fun k e => by cases e; omega)
    have hsl : ItemsAt W2 0 W2.heap.size (.slice As dl.length cs) dl := (sl_keep (Sl.below hsv ((Below.refl _ W).alloc (Nat.le_refl _) (.cells #[.int .i64 dmv, .int .i64 dfr, .int .i64 dto, .slice As dl.length cs, .bool dcame] 42))) hg2 (fun r e => by cases e; exact ho2) (by simp)).wide (Nat.zero_le _) (by have := hg2.size; simp at this; omega)
    have hW2l : W.heap.size < W2.heap.size := by have := hg2.size; simp at this; omega
    have hbw := HB5.out.trans hB
    obtain ⟨bo, o, rfl, -, hbo, c0, c1, c2, c3, c4⟩ := docAt_cell (Sl.below (Sl.of_own HV.out) hbw) hn
    have hbo2 : bo < W2.heap.size := by have := hbw.size; omega
    have hnest := HNEST.out es[pre.length] (List.getElem_mem hn)
    generalize es[pre.length] = pp at *
    obtain ⟨dd, lv⟩ := pp
    dsimp only at hdn hnest c0 c1 c2 c3 c4
    subst hdn
    dsimp only at hnest c0 c1 c2 c3 c4
    have hnW := (hnest.below (hbw.mono hbase)).wide (Nat.le_refl _) (Nat.le_trans hbase hbw.size)
    obtain ⟨Al, cl, rfl, -⟩ := hnest.form
    have hxW := HX.out.same hbw
    have hd : decide (es.length ≤ pre.length) = false := by simp; omega
    have cS := sameW_calls ⟨dmv, dfr, dto, dl, dcame⟩ ⟨dmv, dfr, dto, dl, dcame⟩ (.slice As dl.length cs) (.slice Al dl.length cl) W2.drew (hsl.mono (Below.refl _ W2).drew (Nat.le_refl _)) (hnW.mono (Below.refl _ W2).drew (Nat.le_refl _))
    rw [(sameW_iff _ _).2 rfl] at cS
    dsimp only [wayV] at cS
    have CS := Lib.hid cS
    have HBW := Lib.hid hB
    have l1 : (0 : Int) ≤ (pre.length : Int) := by omega
    have l2 : (pre.length : Int) < (es.length : Int) := by omega
    clear cS ho2 ho21 ho22 hsl hnW hnest hsv g1 hbw hg2 hB
    generalize hpl : pre.length = n at *
    have HPL := Lib.hid hpl
    clear hpl
    gi_wp2
    refine Pi.regionIn [(0, false), (1, false), (2, false), (3, false), (4, false), (5, false), (6, false), (7, false), (8, false), (9, false), (10, false), (11, false), (12, false), (13, false), (14, false), (15, false), (16, true), (17, false), (18, false)]
      (fun V => Ob V w.heap.size 25 #[.pointer (some ⟨xb, 0, none⟩)] ∧ Ob V (w.heap.size + 3) 3 #[.int .i64 n] ∧ Ob V W.heap.size 42 #[.int .i64 dmv, .int .i64 dfr, .int .i64 dto, .slice As dl.length cs, .bool dcame] ∧ Ob V xb 28 #[.slice (some ⟨bo, o, none⟩) es.length c] ∧ W2.heap.size ≤ V.heap.size ∧ Below W2.heap.size W2 V)
      hmx (by kernel_rfl) (by kernel_rfl) (by kernel_rfl) (by kernel_rfl) ⟨hb0, hb2, hb8, hxW, Nat.le_refl _, (Below.refl _ W2).drew⟩ rfl ?_
    simp only [Pu.named, List.filterMap_cons, List.filterMap_nil, List.getElem?_toArray, List.getElem?_cons_succ, List.getElem?_cons_zero, Option.map_some]
    iterate 16 (apply Pu.WalkM.on (by rfl)
                · rintro V ⟨k0, k2, k8, kx, ks, kb⟩
                  have z0 := k0.cell (j := 0) (v := .pointer (some ⟨xb, 0, none⟩)) rfl
                  have z2 := k2.cell (j := 0) (v := .int .i64 n) rfl
                  have zx := kx.cell (j := 0) (v := .slice (some ⟨bo, o, none⟩) es.length c) rfl
                  obtain ⟨y0, y1, y2, y3, y4⟩ := k8.five
                  have r0 := (kb.cell (p := ⟨bo, o + n * 5, none⟩) hbo2).trans c0
                  have r1 := (kb.cell (p := ⟨bo, o + n * 5 + 1, none⟩) hbo2).trans c1
                  have r2 := (kb.cell (p := ⟨bo, o + n * 5 + 2, none⟩) hbo2).trans c2
                  have r3 := (kb.cell (p := ⟨bo, o + n * 5 + 3, none⟩) hbo2).trans c3
                  have r4 := (kb.cell (p := ⟨bo, o + n * 5 + 4, none⟩) hbo2).trans c4
                  go_wp2_with fail
                  refine ⟨rfl, ?_, rfl⟩
                  try simp only [Act.put, List.setIfInBounds_toArray, List.set_cons_succ, List.set_cons_zero]
                  rfl
                simp only [Act.put, List.setIfInBounds_toArray, List.set_cons_succ, List.set_cons_zero])
    refine Pu.WalkM.make (by rfl) ?_
    intro V hV
    rw [hV]
    clear hV V
    go_wp2_with (go_at_call 21; refine CS.out.mono ?_; rintro e W3 ⟨rfl, hb3⟩)
    have hb3' : Below W2.heap.size W2 W3 := (Below.refl _ W2).drew.trans hb3
    refine ⟨rfl, .bool true, _, (fun V => V = W3), ?_, rfl, (fun V h => by rw [h]; exact ⟨hb0.same hb3', hb2.same hb3', hb8.same hb3', hxW.same hb3', hb3'.size, hb3'⟩), (.inr (fun _ h => h)), ?_⟩
    · simp only [Act.put, List.setIfInBounds_toArray, List.set_cons_succ, List.set_cons_zero]
    simp only [Act.put, List.setIfInBounds_toArray, List.set_cons_succ, List.set_cons_zero]
    iterate 02 (apply Pu.WalkM.on (by rfl)
                · rintro V -
                  go_wp2_with fail
                  refine ⟨rfl, ?_, rfl⟩
                  try simp only [Act.put, List.setIfInBounds_toArray, List.set_cons_succ, List.set_cons_zero]
                  rfl
                simp only [Act.put, List.setIfInBounds_toArray, List.set_cons_succ, List.set_cons_zero])
    refine Pu.WalkM.nil ?_
    intro V hV
    rw [hV]
    clear hV V
    refine Pi.OnlyN.out ?_
    have z2 := (hb2.same hb3').cell (j := 0) (v := .int .i64 n) rfl
    have f2 := (hb2.same hb3').frozen 0
    have hl256 : (n : Int) < 256 := by have := HLEN.out; omega
    clear c0 c1 c2 c3 c4 hd l1 l2
    gi_wp2
    have g3 := only_of_below hb3' none
    refine ⟨keeps_set (keeps_below _ hb3') _ _, (KpX.of_grown g3 (fun g e => by cases e)).trans (KpX.of_grown (grownBy_set W3 _ 0 _) (fun g e => by cases e; exact hx3)), ((hb0.same hb3').other (by omega) 0 _), ((hb1.same hb3').other (by omega) 0 _), ?_, ?_⟩
    · have := (hb2.same hb3').set 0 (.int .i64 ((n : Int) + 1))
      rw [List.length_append, HPL.out]
      exact this
    · exact (HBW.out.trans (hb3'.mono (by have := HBW.out.size; omega))).grown (grownBy_set W3 _ 0 _) (by have := HBW.out.size; have := hb3'.size; omega) (fun k e => by cases e; omega)
  case done =>
    rintro D xs W hD rfl ⟨hb0, hb1, hb2, hB⟩ hK
    gi_wp2
    have hbw := HB5.out.trans hB
    have hxW : Ob W.drew xb 28 #[.slice A es.length c] := HX.out.same hbw.drew
    have k0 : Ob W.drew w.heap.size 25 #[.pointer (some ⟨xb, 0, none⟩)] := hb0
    have k1 : Ob W.drew (w.heap.size + 1) 4 #[.bool false] := hb1
    have k2 : Ob W.drew (w.heap.size + 3) 3 #[.int .i64 xs.length] := hb2
    have hq : ((xs.length : Int) == (es.length : Int)) = true := by rw [HLEN.out]; simp
    have hBs := hB.size
    clear hb0 hb1 hb2
    refine wpIn_wide.2 ?_
    refine Pu.regionM [(0, false), (1, false), (2, false), (3, false), (4, false), (5, false), (6, false), (7, true)]
      (fun V => Ob V w.heap.size 25 #[.pointer (some ⟨xb, 0, none⟩)] ∧ Ob V (w.heap.size + 3) 3 #[.int .i64 xs.length] ∧ Ob V xb 28 #[.slice A es.length c])
      hmx (by kernel_rfl) (by kernel_rfl) (by kernel_rfl) ⟨k0, k2, hxW⟩ rfl ?_
    simp only [Pu.named, List.filterMap_cons, List.filterMap_nil, List.getElem?_toArray, List.getElem?_cons_succ, List.getElem?_cons_zero, Option.map_some]
    iterate 07 (apply Pu.WalkM.on (by rfl)
                · rintro V ⟨m0, m2, mx⟩
                  have z0 := m0.cell (j := 0) (v := .pointer (some ⟨xb, 0, none⟩)) rfl
                  have z2 := m2.cell (j := 0) (v := .int .i64 xs.length) rfl
                  have zx := mx.cell (j := 0) (v := .slice A es.length c) rfl
                  go_wp2_with fail
                  refine ⟨rfl, ?_, rfl⟩
                  try simp only [Act.put, List.setIfInBounds_toArray, List.set_cons_succ, List.set_cons_zero]
                  rfl
                simp only [Act.put, List.setIfInBounds_toArray, List.set_cons_succ, List.set_cons_zero])
    refine Pu.WalkM.make (by rfl) ?_
    intro V hV
    rw [hV]
    clear hV V
    have z1 := k1.cell (j := 0) (v := .bool false) rfl
    have f1 := k1.frozen 0
    go_wp2_with fail
    refine ⟨rfl, undef, (fun _ => True), (fun V => V = W.drew.setCell ⟨w.heap.size + 1, 0, none⟩ (.bool true)), rfl, rfl, (fun _ _ => trivial), (.inl (by kernel_rfl)), Pu.WalkM.nil ?_⟩
    intro V hV
    rw [hV]
    clear hV V
    simp only [Act.put]
    have hb22 := k1.set 0 (.bool true)
    have hBB := hB.drew.grown (grownBy_set W.drew (w.heap.size + 1) 0 (.bool true)) (by show w.heap.size ≤ W.heap.size; omega) (fun k e => by cases e; omega)
    have hK2 : (W.drew.setCell ⟨w.heap.size + 1, 0, none⟩ (.bool true)).heap[D]? = some (.deferred (some [])) := ((grownBy_set W.drew (w.heap.size + 1) 0 (.bool true)).block D (Array.getElem?_eq_some_iff.1 hK).1 (fun e => by cases e; omega)).trans hK
    clear z1 f1
    gi_wp2
    refine ⟨by simp, .inl ⟨_, _, rfl, run_takeDeferred hK2, ?_⟩⟩
    have c4 : ((W.setCell ⟨w.heap.size + 1, 0, none⟩ (.bool true)).drew.putObj D (.deferred none)).cell? ⟨w.heap.size + 1, 0, none⟩ = some (.bool true) := (boxed_end hb22 hK2).cell
    refine ⟨.bool true, ?_, rfl, below_end (HB5.out.trans hBB) (by omega) hK2⟩
    simp [results, Try.f24, go_sem, c4]
end Mv
end Go.Proofs.Ytdbkkldgobkjcaa
