/-
  parcels: the law Packs.
  parcels: the row Packs.
-/
import Derived.Test.YtdbkkldgobkjcaaGreatMz19
import Derived.Test.YtdbkkldgobkjcaaGreatMz20
import Derived.Deep.DeepCutAuto
import Derived.Deep.CutBlock
import Derived.Lib.AppendStr

set_option linter.unusedVariables false
set_option linter.unusedSimpArgs false
namespace Go.Proofs.YtdbkkldgobkjcaaGreat
open Go.RowKit Go.Maps
namespace Pc
open It Mv Ce

theorem St.okE {w : World} {b mb xb : Nat} {Z : Nat → Prop} {W : World} {ds : List Row} {es : List DR} (h : St w b mb xb Z W ds es) (hs : ShE ds) : ∀ d ∈ ds, OkE d := fun d hd => by
  refine ⟨h.pc.ok d hd, ?_, hs d hd⟩
  unfold regs
  rw [List.pairwise_map]
  exact ((h.pc.frm d hd).sorted keyedI).imp fun e => of_decide_eq_true e
/-- the document's rows, with other maps' blocks -/
theorem docs_like : ∀ (es : List DR) (ds' : List Row), Like (es.map (·.d)) ds' → ∃ es' : List DR, es'.map (·.d) = ds' ∧ es'.length = es.length ∧ rowCs es' = rowCs es ∧ ∀ p ∈ es', ∃ q ∈ es, p.v1 = q.v1 ∧ p.v2 = q.v2 ∧ p.v3 = q.v3 ∧ p.d.wa = q.d.wa ∧ p.d.sh = q.d.sh ∧ p.d.ba = q.d.ba
  | [], [], _ => ⟨[], rfl, rfl, rfl, fun p hp => by cases hp⟩
  | [], d :: r, h => by unfold Like at h; simp at h
  | q :: es, [], h => by unfold Like at h; simp at h
  | q :: es, d :: ds, h => by
    unfold Like at h
    simp only [List.map_cons, List.cons.injEq] at h
    obtain ⟨h1, h2⟩ := h
    obtain ⟨es', e1, e2, e3, e4⟩ := docs_like es ds h2
    obtain ⟨⟨od, wa, sh, ba, fr, fb⟩, v1, v2, v3⟩ := q
    obtain ⟨od', wa', sh', ba', fr', fb'⟩ := d
    simp only [Row.mk.injEq] at h1
    obtain ⟨rfl, rfl, rfl, rfl, rfl, -⟩ := h1
    refine ⟨⟨⟨od, wa, sh, ba, fr, fb'⟩, v1, v2, v3⟩ :: es', by rw [List.map_cons, e1], by rw [List.length_cons, List.length_cons, e2], ?_, fun p hp => ?_⟩
    · unfold rowCs at e3 ⊢
      rw [List.flatMap_cons, List.flatMap_cons, e3]
      rfl
    · rcases List.mem_cons.1 hp with rfl | hp
      · exact ⟨_, List.mem_cons_self, rfl, rfl, rfl, rfl, rfl, rfl⟩
      · obtain ⟨q, hq, h⟩ := e4 p hp
        exact ⟨q, List.mem_cons_of_mem _ hq, h⟩
theorem DocP.like {w : World} {xb base : Nat} {Y : Nat → Prop} {es es' : List DR} (h : DocP w xb base Y es) (h2 : es'.length = es.length) (h3 : rowCs es' = rowCs es) (h4 : ∀ p ∈ es', ∃ q ∈ es, p.v1 = q.v1 ∧ p.v2 = q.v2 ∧ p.v3 = q.v3 ∧ p.d.wa = q.d.wa ∧ p.d.sh = q.d.sh ∧ p.d.ba = q.d.ba) : DocP w xb base Y es' := by
  refine ⟨?_, fun p hp => ?_, h.nx, h.yl⟩
  · obtain ⟨v, g1, g2, g3⟩ := h.ob
    exact ⟨v, g1, by rw [h2, h3]; exact g2, g3⟩
  · obtain ⟨q, hq, e1, e2, e3, e4, e5, e6⟩ := h4 p hp
    rw [e1, e2, e3, e4, e5, e6]
    exact h.nest q hq
theorem ShE.like {ds ds' : List Row} (h : ShE ds) (hl : Like ds ds') : ShE ds' := fun d hd => by
  unfold Like at hl
  have h1 : { d with fb := 0 } ∈ ds'.map (fun d => { d with fb := 0 }) := List.mem_map.2 ⟨d, hd, rfl⟩
  rw [← hl] at h1
  obtain ⟨c, hc, e⟩ := List.mem_map.1 h1
  simp only [Row.mk.injEq] at e
  obtain ⟨-, -, e3, -, e5, -⟩ := e
  rw [← e3, ← e5]
  exact h c hc
theorem Like.length {ds ds' : List Row} (h : Like ds ds') : ds.length = ds'.length := by have := congrArg List.length h; simpa using this
theorem St.unp {w : World} {b mb xb b2 mb2 : Nat} {Z : Nat → Prop} {W W2 : World} {ds ds' : List Row} {es : List DR} (h : St w b mb xb Z W ds es) (hb : Below W.heap.size W W2) (hl : Like ds ds') (hP : ∀ X : Nat → Prop, (∀ i, X i → i < W.heap.size) → PcAt W2 W.heap.size b2 mb2 X ds') : ∃ es', St w b2 mb2 xb Z W2 ds' es' := by
  have hxl : xb < W.heap.size := by obtain ⟨v, hx, -⟩ := h.doc.ob; exact hx.lt
  have hP2 := hP (fun i => i = xb ∨ Z i) (fun i hi => by rcases hi with rfl | hi; exact hxl; exact h.pc.xl i (.inr hi))
  obtain ⟨es', e1, e2, e3, e4⟩ := docs_like es ds' (by rw [h.map]; exact hl)
  refine ⟨es', h.below.trans (hb.mono h.below.size), hP2.lower h.below.size, (h.doc.more hb (fun i hi => ?_)).like e2 e3 e4, e1, h.xlo⟩
  rcases hi with hi | hi
  · have := hP2.y hi
    exact ⟨.inr this.2.1, this.1⟩
  · exact ⟨.inl (.inr hi), Nat.lt_of_lt_of_le (h.pc.xl i (.inr hi)) hb.size⟩
theorem St.docpack {w : World} {b mb xb : Nat} {Z : Nat → Prop} {W : World} {ds : List Row} {es : List DR} (h : St w b mb xb Z W ds es) (hs : ShE ds) (hl : ds.length ≤ 120) :
    Calls Tryz.prog 40 #[.pointer (some ⟨xb, 0, none⟩)] W fun e w' => (∃ u, e = .returned u ∧ BytesAt w' 0 w'.heap.size u (packR ds)) ∧ Below W.heap.size W w' := by
  obtain ⟨v, h1, h2, -⟩ := h.doc.ob
  obtain ⟨A, c, rfl, hc1, hc2, -⟩ := (Sl.of_own h2).at_
  have hE := h.okE hs
  have := refpackP_calls xb es A c W h1 ((Sl.of_own h2).wide (Nat.zero_le _) (Nat.le_refl _)) (fun p hp => ⟨(h.doc.nest p hp).1.items, (h.doc.nest p hp).2.1.items, (h.doc.nest p hp).2.2.items⟩) (fun p hp => hE p.d (by rw [← h.map]; exact List.mem_map.2 ⟨p, hp, rfl⟩)) (by have := congrArg List.length h.map; rw [List.length_map] at this; omega)
  rw [h.map] at this
  exact this

set_option maxRecDepth 100000 in
set_option maxHeartbeats 40000000 in
theorem packs_law (os : List OpV) (v : Value) (o : OpV) (lo : Value) (w : World) (hO : OpsAt w w.heap.size v os) (hok : ∀ o ∈ os, OkOp o) (ho : OkOp o) (hIo : ItemsAt w 0 w.heap.size lo o.l) :
    Calls Tryz.prog 6 #[v, .agg (opC o lo).toArray] w fun e w' => e = .returned (.bool true) ∧ Below w.heap.size w w' := by
  obtain ⟨A, c, rfl, hc1, hc2⟩ := hO.form
  unfold maxLen at hc2
  have cL := Lib.hid lives_calls
  have hen := eql_nilP
  obtain ⟨kd0, od0, rg0, l0⟩ := o
  dsimp only at hIo
  obtain ⟨Al0, cl0, rfl, hcl01, hcl02⟩ := hIo.form
  unfold maxLen at hcl02
  have HO0 := Lib.hid ho
  have HI0 := Lib.hid hIo
  unfold opC
  dsimp only
  clear ho hIo
  have hal0 := (Below.refl w.heap.size w).alloc (Nat.le_refl _) (.cells #[.int .i64 kd0, .int .i64 od0, .int .i64 rg0, .slice Al0 l0.length cl0] 32)
  have hbx := Ob.new w 32 #[.int .i64 kd0, .int .i64 od0, .int .i64 rg0, .slice Al0 l0.length cl0]
  go_enter Tryz.func6, Tryz.ntmps6
  go_wp2_with fail
  refine (new_calls _).mono ?_
  generalize hw0 : w.alloc (.cells #[.int .i64 kd0, .int .i64 od0, .int .i64 rg0, .slice Al0 l0.length cl0] 32) = w0 at *
  clear hw0
  rintro e w1 ⟨⟨bI, mI, rfl, hM⟩, h1⟩
  replace hM := (hM (fun i => i = w.heap.size) (fun i hi => by have := hbx.lt; omega)).lower hal0.size
  have hs0 := hal0.size
  have hbx1 := hbx.same h1
  have h01 := hal0.trans (h1.mono hal0.size)
  have hal := (Below.refl w1.heap.size w1).alloc (Nat.le_refl _) (.cells #[.slice none 0 0] 28)
  have hx2 := Ob.new w1 28 #[.slice none 0 0]
  have hM2 : PcAt (w1.alloc (.cells #[.slice none 0 0] 28)) w.heap.size bI mI (fun i => i = w1.heap.size ∨ i = w.heap.size) [] := hM.more hal fun i hi => ⟨hi.elim (fun h => .inr (by omega)) .inl, by have := hbx1.lt; simp; omega⟩
  have hmbl := (hM.y (.inl rfl : Yof mI [] mI)).1
  have hB2 := h01.trans (hal.mono h01.size)
  have hD2 : DocP (w1.alloc (.cells #[.slice none 0 0] 28)) w1.heap.size w.heap.size (fun i => Yof mI [] i ∨ i = w.heap.size) [] := by
    refine ⟨⟨_, hx2, World.ownsRow_nil _ _ _ _, fun g hg => by cases hg⟩, fun p hp => (by cases hp), ?_, ?_⟩
    · rintro ((h | ⟨d, hd, -⟩) | h)
      · omega
      · cases hd
      · have := hbx1.lt; omega
    · rintro i ((h | ⟨d, hd, -⟩) | h)
      · simp; omega
      · cases hd
      · have := hbx1.lt; simp; omega
  have hS2 : St w bI mI w1.heap.size (fun i => i = w.heap.size) (w1.alloc (.cells #[.slice none 0 0] 28)) [] [] := ⟨hB2, hM2, hD2, rfl, h01.size⟩
  have hbx2 := hbx1.same hal
  have hxb : w.heap.size ≤ w1.heap.size := h01.size
  clear hM hal hx2 h1 hM2 hD2 hB2 hmbl hbx hbx1 h01 hal0
  go_wp2_with fail
  refine (cL.out _).mono ?_
  generalize hw2 : w1.alloc (.cells #[.slice none 0 0] 28) = w2 at *
  clear hw2
  rintro e w3 ⟨rfl, h3⟩
  have HS3 := Lib.hid (hS2.same h3)
  have hbx3 := hbx2.same h3
  clear hS2 h3 hbx2
  generalize w1.heap.size = xb at *
  obtain ⟨q0, q1, q2, q3⟩ := hbx3.four
  by_cases hlong0 : 100 < l0.length
  · have hd3 : decide ((l0.length : Int) > 100) = true := by simp; omega
    go_wp2_with fail
    refine (cL.out _).mono ?_
    rintro e w4 ⟨rfl, h4⟩
    go_wp2
    go_ret
    exact ⟨rfl, HS3.out.below.trans (h4.mono HS3.out.below.size)⟩
  · have hd3 : decide ((l0.length : Int) > 100) = false := by simp; omega
    have HBX := Lib.hid hbx3
    clear hbx3 hlong0
    have HZL := Lib.hid (fun (i : Nat) (hi : i = w.heap.size) => show w.heap.size ≤ i by omega)
    go_wp2
    go_loopw [7] (fun i wr => ∃ (k : Nat) (ds : List Row) (es : List DR), k ≤ os.length ∧ k ≤ 60 ∧ i = .int .i64 k ∧ St w bI mI xb (fun i => i = w.heap.size) wr ds es ∧ ShE ds ∧ ds.length ≤ k ∧ Ob wr w.heap.size 32 #[.int .i64 kd0, .int .i64 od0, .int .i64 rg0, .slice Al0 l0.length cl0]) (fun i _ => os.length - (intOf i).toNat)
    case atStart => exact ⟨0, [], [], by omega, by omega, rfl, HS3.out, (fun d hd => by cases hd), by simp, HBX.out⟩
    case round =>
      obtain ⟨k, ds, es, hk, hk60, rfl, hS, hsh, hdl, hbx⟩ := hrel
      clear HS3 HBX q0 q1 q2 q3
      by_cases hlt : k < os.length ∧ k < 60
      · obtain ⟨hlt, h60⟩ := hlt
        obtain ⟨bo, po, lv, rfl, hbo, hIo, g0, g1, g2, g3⟩ := hO.at_ hlt
        have hB := hS.below
        replace g0 := (hB.cell (p := ⟨bo, po + k * 4, none⟩) hbo).trans g0
        replace g1 := (hB.cell (p := ⟨bo, po + k * 4 + 1, none⟩) hbo).trans g1
        replace g2 := (hB.cell (p := ⟨bo, po + k * 4 + 2, none⟩) hbo).trans g2
        replace g3 := (hB.cell (p := ⟨bo, po + k * 4 + 3, none⟩) hbo).trans g3
        have hoo := hok _ (List.getElem_mem hlt)
        generalize os[k] = o at *
        obtain ⟨kd, od, rg, l⟩ := o
        dsimp only at hIo g0 g1 g2 g3
        have CD := Lib.hid (do_calls w bI mI xb _ wr ds es hS HZL.out hsh kd od rg l lv hIo hoo)
        obtain ⟨Al, cl, rfl, hcl1, hcl2⟩ := hIo.form
        unfold maxLen at hcl2
        have hd : decide ((k : Int) < (os.length : Int)) = true := by simp; omega
        have hd60 : decide ((k : Int) < 60) = true := by simp; omega
        have HBX := Lib.hid hbx
        have HXB := Lib.hid (show w.heap.size ≠ xb ∧ ¬ Yof mI ds w.heap.size from ⟨fun e => hS.doc.nx (.inr e.symm), fun hy => (hS.pc.y hy).2.2 (.inr rfl)⟩)
        have HS := Lib.hid hS
        have HSH := Lib.hid hsh
        clear hB hS hoo hIo hsh hbx
        by_cases hlong : 100 < l.length
        · have hd4 : decide ((l.length : Int) ≤ 100) = false := by simp; omega
          go_wp2
          exact ⟨⟨k + 1, ds, es, by omega, by omega, by go_num, HS.out, HSH.out, by omega, HBX.out⟩, by simp [intOf]; omega⟩
        · have hd4 : decide ((l.length : Int) ≤ 100) = true := by simp; omega
          go_wp2_with fail
          refine CD.out.mono ?_
          rintro e W1 ⟨rfl, ds2, es2, hS2, hsh2, hl2, hk2⟩
          have HBX2 := Lib.hid (hk2.ob HBX.out ⟨HBX.out.lt, HXB.out.1, HXB.out.2⟩)
          have HS2 := Lib.hid hS2
          have HSH2 := Lib.hid hsh2
          clear hS2 hsh2 hk2 g0 g1 g2 g3
          go_wp2
          exact ⟨⟨k + 1, ds2, es2, by omega, by omega, by go_num, HS2.out, HSH2.out, by omega, HBX2.out⟩, by simp [intOf]; omega⟩
      · have hl60 : ds.length ≤ 60 := by omega
        rcases Nat.lt_or_ge k os.length with h1 | h1
        · as_aux_lemma =>
            have hd : decide ((k : Int) < (os.length : Int)) = true := by simp; omega
            have hd60 : decide ((k : Int) < 60) = false := by simp; omega
            clear hlt
            have hsr := hS.pc.sorted
            have hE := hS.okE hsh
            have cP := Lib.hid (packP_calls w.heap.size bI mI _ ds wr hS.pc hE (by omega))
            have HS := Lib.hid hS
            have HE := Lib.hid hE
            have HSR := Lib.hid hsr
            have HSH := Lib.hid hsh
            have HBX := Lib.hid hbx
            clear hS hE hsr hsh hbx
            go_wp2_with fail
            refine cP.out.mono ?_
            rintro e W1 ⟨⟨bv, rfl, hbv⟩, hb1⟩
            have hB1 : BytesAt W1 0 W1.heap.size bv (packR ds) := BytesAt.all hbv
            obtain ⟨Ab, cb, rfl, -⟩ := hB1.form
            have CU := Lib.hid (unpack_calls ds HE.out (List.pairwise_map.2 HSR.out) (by omega) _ W1 hB1)
            have HS1 := Lib.hid (HS.out.same hb1)
            have HBX1 := Lib.hid (HBX.out.same hb1)
            have HB1 := Lib.hid hB1
            clear hbv hb1 hB1 cP HS HBX HE HSR
            go_wp2_with fail
            refine CU.out.mono ?_
            rintro e W2 ⟨⟨b2, mb2, ds', rfl, hLk, hP2⟩, hb2⟩
            obtain ⟨es', hS2⟩ := HS1.out.unp hb2 hLk hP2
            have HSH2 := Lib.hid (HSH.out.like hLk)
            have hl2 : ds.length = ds'.length := hLk.length
            have hpk := hLk.pack
            have hBW := HB1.out.mono hb2 hb2.size
            obtain ⟨sb, hsb⟩ : ∃ sb, (⟨(packR ds).toArray⟩ : ByteArray) = sb := ⟨_, rfl⟩
            have HBB := Lib.hid (fun V (hb : Below W2.heap.size W2 V) => run_string_at (P := Tryz.prog) (w := V) (dst := 9) Tryz.underlying65 Tryz.underlying5 Tryz.underlying9 (hBW.below hb))
            have hdr := (Below.refl W2.heap.size W2).drew
            have cR := (hS2.same hdr).docpack HSH2.out (by omega)
            rw [← hpk] at cR
            have CR := Lib.hid cR
            have HS2 := Lib.hid hS2
            have HBX2 := Lib.hid (HBX1.out.same hb2)
            have cWk := Lib.hid (fun V (hb : Below W2.heap.size W2 V) => walksP_calls w.heap.size b2 mb2 xb w.heap.size _ _ ds' es' V (HS2.out.same hb).pc (HS2.out.same hb).doc HS2.out.map)
            clear hS2 cR hBW hpk hLk hP2 hb2 HB1 CU HBX1 HS1 HSH
            go_wp2_with fail
            refine Pu.regionM [(0, false), (1, false), (2, false), (3, true), (4, false), (5, false), (6, false), (7, false), (8, false), (9, false), (10, false), (11, false), (12, false), (13, false), (14, false), (15, false), (16, false), (17, true), (18, false), (19, false)] (fun V => Below W2.heap.size W2 V) hmx (by kernel_rfl) (by kernel_rfl) (by kernel_rfl) hdr rfl ?_
            simp only [Pu.named, List.filterMap_cons, List.filterMap_nil, List.getElem?_toArray, List.getElem?_cons_succ, List.getElem?_cons_zero, Option.map_some]
            iterate 03 (first
                         | (refine Pu.WalkM.off (by rfl) ?_; simp only [Act.put, List.setIfInBounds_toArray, List.set_cons_succ, List.set_cons_zero])
                         | (apply Pu.WalkM.on (by rfl)
                            · intro V hV
                              have hcv := HBB.out V hV
                              go_wp2_with fail
                              refine ⟨rfl, ?_, rfl⟩
                              try simp only [Act.put, List.setIfInBounds_toArray, List.set_cons_succ, List.set_cons_zero]
                              rfl
                            simp only [Act.put, List.setIfInBounds_toArray, List.set_cons_succ, List.set_cons_zero]))
            refine Pu.WalkM.make (by rfl) ?_
            intro V hV
            rw [hV]
            clear hV V
            go_wp2_with (go_at_call 40; refine CR.out.mono ?_; rintro e W3 ⟨⟨ru, rfl, hru⟩, hb3⟩)
            have hn3 := hdr.trans hb3
            obtain ⟨Ar, cr, rfl, -⟩ := hru.form
            have HRB := Lib.hid (fun V (hb : Below W3.heap.size W3 V) => run_string_at (P := Tryz.prog) (w := V) (dst := 9) Tryz.underlying65 Tryz.underlying5 Tryz.underlying9 (hru.below hb))
            refine ⟨rfl, .slice Ar (packR ds).length cr, (fun V => Below W3.heap.size W3 V), (fun V => V = W3), ?_, rfl, (fun V h => by rw [h]; exact Below.refl _ _), (.inr (fun V h => hn3.trans (h.mono hn3.size))), ?_⟩
            · try simp only [Act.put, List.setIfInBounds_toArray, List.set_cons_succ, List.set_cons_zero]
            try simp only [Act.put, List.setIfInBounds_toArray, List.set_cons_succ, List.set_cons_zero]
            generalize (⟨(packR ds).toArray⟩ : ByteArray) = sb at *
            iterate 13 (first
                         | (refine Pu.WalkM.off (by rfl) ?_; simp only [Act.put, List.setIfInBounds_toArray, List.set_cons_succ, List.set_cons_zero])
                         | (apply Pu.WalkM.on (by rfl)
                            · intro V hV
                              have hcv := HRB.out V hV
                              go_wp2_with fail
                              refine ⟨rfl, ?_, rfl⟩
                              try simp only [Act.put, List.setIfInBounds_toArray, List.set_cons_succ, List.set_cons_zero]
                              rfl
                            simp only [Act.put, List.setIfInBounds_toArray, List.set_cons_succ, List.set_cons_zero]))
            refine Pu.WalkM.make (by rfl) ?_
            intro V hV
            rw [hV]
            clear hV V
            go_wp2_with (go_at_call 20; refine (cWk.out _ hn3).mono ?_; rintro e W4 ⟨rfl, hb4⟩)
            have hn4 := hn3.trans (hb4.mono hn3.size)
            refine ⟨rfl, .bool true, (fun V => Below W3.heap.size W3 V), (fun V => V = W4), ?_, rfl, (fun V h => by rw [h]; exact hb4), (.inr (fun _ h => h)), ?_⟩
            · try simp only [Act.put, List.setIfInBounds_toArray, List.set_cons_succ, List.set_cons_zero]
            try simp only [Act.put, List.setIfInBounds_toArray, List.set_cons_succ, List.set_cons_zero]
            iterate 02 (first
                         | (refine Pu.WalkM.off (by rfl) ?_; simp only [Act.put, List.setIfInBounds_toArray, List.set_cons_succ, List.set_cons_zero])
                         | (apply Pu.WalkM.on (by rfl)
                            · intro V hV
                              go_wp2_with fail
                              refine ⟨rfl, ?_, rfl⟩
                              try simp only [Act.put, List.setIfInBounds_toArray, List.set_cons_succ, List.set_cons_zero]
                              rfl
                            simp only [Act.put, List.setIfInBounds_toArray, List.set_cons_succ, List.set_cons_zero]))
            refine Pu.WalkM.nil ?_
            intro V hV
            rw [hV]
            clear hV V
            clear HBB HRB CR cWk hru sb hsb
            have HS4 := Lib.hid (HS2.out.same hn4)
            have hbx4 := HBX2.out.same hn4
            have CD2 := Lib.hid (do_calls w b2 mb2 xb (fun i => i = w.heap.size) W4 ds' es' HS4.out HZL.out HSH2.out kd0 od0 rg0 l0 _ HI0.out HO0.out)
            obtain ⟨q0, q1, q2, q3⟩ := hbx4.four
            clear hb3 hn3 hb4 hn4 hdr HS2 HBX2
            go_wp2_with fail
            refine CD2.out.mono ?_
            rintro e W5 ⟨rfl, ds3, es3, hS5, hsh5, hl5, -⟩
            clear q0 q1 q2 q3 CD2 HS4 hbx4
            have hE5 := hS5.okE hsh5
            have HE5 := Lib.hid hE5
            have HS5 := Lib.hid hS5
            have HSH5 := Lib.hid hsh5
            have hdr5 := (Below.refl W5.heap.size W5).drew
            have cW5 := Lib.hid (fun V (hb : Below W5.heap.size W5 V) => walksP_calls w.heap.size b2 mb2 xb w.heap.size _ _ ds3 es3 V (HS5.out.same hb).pc (HS5.out.same hb).doc HS5.out.map)
            have cP5 := Lib.hid (fun V (hb : Below W5.heap.size W5 V) => packP_calls w.heap.size b2 mb2 _ ds3 V (HS5.out.same hb).pc HE5.out (by omega))
            have cD5 := Lib.hid (fun V (hb : Below W5.heap.size W5 V) => (HS5.out.same hb).docpack HSH5.out (by omega))
            clear hS5 hsh5 hE5
            go_wp2_with fail
            refine Pu.regionM [(0, false), (1, false), (2, true), (3, false), (4, false), (7, false), (5, true), (6, false), (8, true), (9, false), (10, false), (11, false), (12, false)] (fun V => Below W5.heap.size W5 V) hmx (by kernel_rfl) (by kernel_rfl) (by kernel_rfl) hdr5 rfl ?_
            simp only [Pu.named, List.filterMap_cons, List.filterMap_nil, List.getElem?_toArray, List.getElem?_cons_succ, List.getElem?_cons_zero, Option.map_some]
            iterate 02 (first
                         | (refine Pu.WalkM.off (by rfl) ?_; simp only [Act.put, List.setIfInBounds_toArray, List.set_cons_succ, List.set_cons_zero])
                         | (apply Pu.WalkM.on (by rfl)
                            · intro V hV
                              go_wp2_with fail
                              refine ⟨rfl, ?_, rfl⟩
                              try simp only [Act.put, List.setIfInBounds_toArray, List.set_cons_succ, List.set_cons_zero]
                              rfl
                            simp only [Act.put, List.setIfInBounds_toArray, List.set_cons_succ, List.set_cons_zero]))
            refine Pu.WalkM.make (by rfl) ?_
            intro V hV
            rw [hV]
            clear hV V
            go_wp2_with (go_at_call 20; refine (cW5.out _ hdr5).mono ?_; rintro e W6 ⟨rfl, hb6⟩)
            have hn6 := hdr5.trans (hb6.mono hdr5.size)
            refine ⟨rfl, .bool true, (fun V => Below W5.heap.size W5 V), (fun V => V = W6), ?_, rfl, (fun V h => by rw [h]; exact hn6), (.inr (fun _ h => h)), ?_⟩
            · try simp only [Act.put, List.setIfInBounds_toArray, List.set_cons_succ, List.set_cons_zero]
            try simp only [Act.put, List.setIfInBounds_toArray, List.set_cons_succ, List.set_cons_zero]
            iterate 03 (first
                         | (refine Pu.WalkM.off (by rfl) ?_; simp only [Act.put, List.setIfInBounds_toArray, List.set_cons_succ, List.set_cons_zero])
                         | (apply Pu.WalkM.on (by rfl)
                            · intro V hV
                              go_wp2_with fail
                              refine ⟨rfl, ?_, rfl⟩
                              try simp only [Act.put, List.setIfInBounds_toArray, List.set_cons_succ, List.set_cons_zero]
                              rfl
                            simp only [Act.put, List.setIfInBounds_toArray, List.set_cons_succ, List.set_cons_zero]))
            refine Pu.WalkM.make (by rfl) ?_
            intro V hV
            rw [hV]
            clear hV V
            go_wp2_with (go_at_call 38; refine (cP5.out _ hn6).mono ?_; rintro e W7 ⟨⟨qv, rfl, hqv⟩, hb7⟩)
            have hn7 := hn6.trans (hb7.mono hn6.size)
            have hQ7 : BytesAt W7 0 W7.heap.size qv (packR ds3) := BytesAt.all hqv
            obtain ⟨Aq, cq, rfl, -⟩ := hQ7.form
            have HQB := Lib.hid (fun V (hb : Below W7.heap.size W7 V) => run_string_at (P := Tryz.prog) (w := V) (dst := 9) Tryz.underlying65 Tryz.underlying5 Tryz.underlying9 (hQ7.below hb))
            clear hqv
            refine ⟨rfl, .slice Aq (packR ds3).length cq, (fun V => Below W7.heap.size W7 V), (fun V => V = W7), ?_, rfl, (fun V h => by rw [h]; exact Below.refl _ _), (.inr (fun V h => hn7.trans (h.mono hn7.size))), ?_⟩
            · try simp only [Act.put, List.setIfInBounds_toArray, List.set_cons_succ, List.set_cons_zero]
            try simp only [Act.put, List.setIfInBounds_toArray, List.set_cons_succ, List.set_cons_zero]
            iterate 01 (first
                         | (refine Pu.WalkM.off (by rfl) ?_; simp only [Act.put, List.setIfInBounds_toArray, List.set_cons_succ, List.set_cons_zero])
                         | (apply Pu.WalkM.on (by rfl)
                            · intro V hV
                              have hcv := HQB.out V hV
                              go_wp2_with fail
                              refine ⟨rfl, ?_, rfl⟩
                              try simp only [Act.put, List.setIfInBounds_toArray, List.set_cons_succ, List.set_cons_zero]
                              rfl
                            simp only [Act.put, List.setIfInBounds_toArray, List.set_cons_succ, List.set_cons_zero]))
            refine Pu.WalkM.make (by rfl) ?_
            intro V hV
            rw [hV]
            clear hV V
            go_wp2_with (go_at_call 40; refine (cD5.out _ hn7).mono ?_; rintro e W8 ⟨⟨ru, rfl, hru⟩, hb8⟩)
            have hn8 := hn7.trans (hb8.mono hn7.size)
            obtain ⟨Ar, cr, rfl, -⟩ := hru.form
            have HRB := Lib.hid (fun V (hb : Below W8.heap.size W8 V) => run_string_at (P := Tryz.prog) (w := V) (dst := 9) Tryz.underlying65 Tryz.underlying5 Tryz.underlying9 (hru.below hb))
            refine ⟨rfl, .slice Ar (packR ds3).length cr, (fun V => Below W8.heap.size W8 V), (fun V => V = W8), ?_, rfl, (fun V h => by rw [h]; exact Below.refl _ _), (.inr (fun V h => hb8.trans (h.mono hb8.size))), ?_⟩
            · try simp only [Act.put, List.setIfInBounds_toArray, List.set_cons_succ, List.set_cons_zero]
            try simp only [Act.put, List.setIfInBounds_toArray, List.set_cons_succ, List.set_cons_zero]
            generalize (⟨(packR ds3).toArray⟩ : ByteArray) = sb at *
            iterate 04 (first
                         | (refine Pu.WalkM.off (by rfl) ?_; simp only [Act.put, List.setIfInBounds_toArray, List.set_cons_succ, List.set_cons_zero])
                         | (apply Pu.WalkM.on (by rfl)
                            · intro V hV
                              have hcv := HRB.out V hV
                              go_wp2_with fail
                              refine ⟨rfl, ?_, rfl⟩
                              try simp only [Act.put, List.setIfInBounds_toArray, List.set_cons_succ, List.set_cons_zero]
                              rfl
                            simp only [Act.put, List.setIfInBounds_toArray, List.set_cons_succ, List.set_cons_zero]))
            refine Pu.WalkM.nil ?_
            intro V hV
            rw [hV]
            clear hV V
            have HF := Lib.hid (HS5.out.below.trans (hn8.mono HS5.out.below.size))
            go_wp2
            go_ret
            exact ⟨rfl, HF.out⟩
        · as_aux_lemma =>
            have hd : decide ((k : Int) < (os.length : Int)) = false := by simp; omega
            clear hlt
            have hsr := hS.pc.sorted
            have hE := hS.okE hsh
            have cP := Lib.hid (packP_calls w.heap.size bI mI _ ds wr hS.pc hE (by omega))
            have HS := Lib.hid hS
            have HE := Lib.hid hE
            have HSR := Lib.hid hsr
            have HSH := Lib.hid hsh
            have HBX := Lib.hid hbx
            clear hS hE hsr hsh hbx
            go_wp2_with fail
            refine cP.out.mono ?_
            rintro e W1 ⟨⟨bv, rfl, hbv⟩, hb1⟩
            have hB1 : BytesAt W1 0 W1.heap.size bv (packR ds) := BytesAt.all hbv
            obtain ⟨Ab, cb, rfl, -⟩ := hB1.form
            have CU := Lib.hid (unpack_calls ds HE.out (List.pairwise_map.2 HSR.out) (by omega) _ W1 hB1)
            have HS1 := Lib.hid (HS.out.same hb1)
            have HBX1 := Lib.hid (HBX.out.same hb1)
            have HB1 := Lib.hid hB1
            clear hbv hb1 hB1 cP HS HBX HE HSR
            go_wp2_with fail
            refine CU.out.mono ?_
            rintro e W2 ⟨⟨b2, mb2, ds', rfl, hLk, hP2⟩, hb2⟩
            obtain ⟨es', hS2⟩ := HS1.out.unp hb2 hLk hP2
            have HSH2 := Lib.hid (HSH.out.like hLk)
            have hl2 : ds.length = ds'.length := hLk.length
            have hpk := hLk.pack
            have hBW := HB1.out.mono hb2 hb2.size
            obtain ⟨sb, hsb⟩ : ∃ sb, (⟨(packR ds).toArray⟩ : ByteArray) = sb := ⟨_, rfl⟩
            have HBB := Lib.hid (fun V (hb : Below W2.heap.size W2 V) => run_string_at (P := Tryz.prog) (w := V) (dst := 9) Tryz.underlying65 Tryz.underlying5 Tryz.underlying9 (hBW.below hb))
            have hdr := (Below.refl W2.heap.size W2).drew
            have cR := (hS2.same hdr).docpack HSH2.out (by omega)
            rw [← hpk] at cR
            have CR := Lib.hid cR
            have HS2 := Lib.hid hS2
            have HBX2 := Lib.hid (HBX1.out.same hb2)
            have cWk := Lib.hid (fun V (hb : Below W2.heap.size W2 V) => walksP_calls w.heap.size b2 mb2 xb w.heap.size _ _ ds' es' V (HS2.out.same hb).pc (HS2.out.same hb).doc HS2.out.map)
            clear hS2 cR hBW hpk hLk hP2 hb2 HB1 CU HBX1 HS1 HSH
            go_wp2_with fail
            refine Pu.regionM [(0, false), (1, false), (2, false), (3, true), (4, false), (5, false), (6, false), (7, false), (8, false), (9, false), (10, false), (11, false), (12, false), (13, false), (14, false), (15, false), (16, false), (17, true), (18, false), (19, false)] (fun V => Below W2.heap.size W2 V) hmx (by kernel_rfl) (by kernel_rfl) (by kernel_rfl) hdr rfl ?_
            simp only [Pu.named, List.filterMap_cons, List.filterMap_nil, List.getElem?_toArray, List.getElem?_cons_succ, List.getElem?_cons_zero, Option.map_some]
            iterate 03 (first
                         | (refine Pu.WalkM.off (by rfl) ?_; simp only [Act.put, List.setIfInBounds_toArray, List.set_cons_succ, List.set_cons_zero])
                         | (apply Pu.WalkM.on (by rfl)
                            · intro V hV
                              have hcv := HBB.out V hV
                              go_wp2_with fail
                              refine ⟨rfl, ?_, rfl⟩
                              try simp only [Act.put, List.setIfInBounds_toArray, List.set_cons_succ, List.set_cons_zero]
                              rfl
                            simp only [Act.put, List.setIfInBounds_toArray, List.set_cons_succ, List.set_cons_zero]))
            refine Pu.WalkM.make (by rfl) ?_
            intro V hV
            rw [hV]
            clear hV V
            go_wp2_with (go_at_call 40; refine CR.out.mono ?_; rintro e W3 ⟨⟨ru, rfl, hru⟩, hb3⟩)
            have hn3 := hdr.trans hb3
            obtain ⟨Ar, cr, rfl, -⟩ := hru.form
            have HRB := Lib.hid (fun V (hb : Below W3.heap.size W3 V) => run_string_at (P := Tryz.prog) (w := V) (dst := 9) Tryz.underlying65 Tryz.underlying5 Tryz.underlying9 (hru.below hb))
            refine ⟨rfl, .slice Ar (packR ds).length cr, (fun V => Below W3.heap.size W3 V), (fun V => V = W3), ?_, rfl, (fun V h => by rw [h]; exact Below.refl _ _), (.inr (fun V h => hn3.trans (h.mono hn3.size))), ?_⟩
            · try simp only [Act.put, List.setIfInBounds_toArray, List.set_cons_succ, List.set_cons_zero]
            try simp only [Act.put, List.setIfInBounds_toArray, List.set_cons_succ, List.set_cons_zero]
            generalize (⟨(packR ds).toArray⟩ : ByteArray) = sb at *
            iterate 13 (first
                         | (refine Pu.WalkM.off (by rfl) ?_; simp only [Act.put, List.setIfInBounds_toArray, List.set_cons_succ, List.set_cons_zero])
                         | (apply Pu.WalkM.on (by rfl)
                            · intro V hV
                              have hcv := HRB.out V hV
                              go_wp2_with fail
                              refine ⟨rfl, ?_, rfl⟩
                              try simp only [Act.put, List.setIfInBounds_toArray, List.set_cons_succ, List.set_cons_zero]
                              rfl
                            simp only [Act.put, List.setIfInBounds_toArray, List.set_cons_succ, List.set_cons_zero]))
            refine Pu.WalkM.make (by rfl) ?_
            intro V hV
            rw [hV]
            clear hV V
            go_wp2_with (go_at_call 20; refine (cWk.out _ hn3).mono ?_; rintro e W4 ⟨rfl, hb4⟩)
            have hn4 := hn3.trans (hb4.mono hn3.size)
            refine ⟨rfl, .bool true, (fun V => Below W3.heap.size W3 V), (fun V => V = W4), ?_, rfl, (fun V h => by rw [h]; exact hb4), (.inr (fun _ h => h)), ?_⟩
            · try simp only [Act.put, List.setIfInBounds_toArray, List.set_cons_succ, List.set_cons_zero]
            try simp only [Act.put, List.setIfInBounds_toArray, List.set_cons_succ, List.set_cons_zero]
            iterate 02 (first
                         | (refine Pu.WalkM.off (by rfl) ?_; simp only [Act.put, List.setIfInBounds_toArray, List.set_cons_succ, List.set_cons_zero])
                         | (apply Pu.WalkM.on (by rfl)
                            · intro V hV
                              go_wp2_with fail
                              refine ⟨rfl, ?_, rfl⟩
                              try simp only [Act.put, List.setIfInBounds_toArray, List.set_cons_succ, List.set_cons_zero]
                              rfl
                            simp only [Act.put, List.setIfInBounds_toArray, List.set_cons_succ, List.set_cons_zero]))
            refine Pu.WalkM.nil ?_
            intro V hV
            rw [hV]
            clear hV V
            clear HBB HRB CR cWk hru sb hsb
            have HS4 := Lib.hid (HS2.out.same hn4)
            have hbx4 := HBX2.out.same hn4
            have CD2 := Lib.hid (do_calls w b2 mb2 xb (fun i => i = w.heap.size) W4 ds' es' HS4.out HZL.out HSH2.out kd0 od0 rg0 l0 _ HI0.out HO0.out)
            obtain ⟨q0, q1, q2, q3⟩ := hbx4.four
            clear hb3 hn3 hb4 hn4 hdr HS2 HBX2
            go_wp2_with fail
            refine CD2.out.mono ?_
            rintro e W5 ⟨rfl, ds3, es3, hS5, hsh5, hl5, -⟩
            clear q0 q1 q2 q3 CD2 HS4 hbx4
            have hE5 := hS5.okE hsh5
            have HE5 := Lib.hid hE5
            have HS5 := Lib.hid hS5
            have HSH5 := Lib.hid hsh5
            have hdr5 := (Below.refl W5.heap.size W5).drew
            have cW5 := Lib.hid (fun V (hb : Below W5.heap.size W5 V) => walksP_calls w.heap.size b2 mb2 xb w.heap.size _ _ ds3 es3 V (HS5.out.same hb).pc (HS5.out.same hb).doc HS5.out.map)
            have cP5 := Lib.hid (fun V (hb : Below W5.heap.size W5 V) => packP_calls w.heap.size b2 mb2 _ ds3 V (HS5.out.same hb).pc HE5.out (by omega))
            have cD5 := Lib.hid (fun V (hb : Below W5.heap.size W5 V) => (HS5.out.same hb).docpack HSH5.out (by omega))
            clear hS5 hsh5 hE5
            go_wp2_with fail
            refine Pu.regionM [(0, false), (1, false), (2, true), (3, false), (4, false), (7, false), (5, true), (6, false), (8, true), (9, false), (10, false), (11, false), (12, false)] (fun V => Below W5.heap.size W5 V) hmx (by kernel_rfl) (by kernel_rfl) (by kernel_rfl) hdr5 rfl ?_
            simp only [Pu.named, List.filterMap_cons, List.filterMap_nil, List.getElem?_toArray, List.getElem?_cons_succ, List.getElem?_cons_zero, Option.map_some]
            iterate 02 (first
                         | (refine Pu.WalkM.off (by rfl) ?_; simp only [Act.put, List.setIfInBounds_toArray, List.set_cons_succ, List.set_cons_zero])
                         | (apply Pu.WalkM.on (by rfl)
                            · intro V hV
                              go_wp2_with fail
                              refine ⟨rfl, ?_, rfl⟩
                              try simp only [Act.put, List.setIfInBounds_toArray, List.set_cons_succ, List.set_cons_zero]
                              rfl
                            simp only [Act.put, List.setIfInBounds_toArray, List.set_cons_succ, List.set_cons_zero]))
            refine Pu.WalkM.make (by rfl) ?_
            intro V hV
            rw [hV]
            clear hV V
            go_wp2_with (go_at_call 20; refine (cW5.out _ hdr5).mono ?_; rintro e W6 ⟨rfl, hb6⟩)
            have hn6 := hdr5.trans (hb6.mono hdr5.size)
            refine ⟨rfl, .bool true, (fun V => Below W5.heap.size W5 V), (fun V => V = W6), ?_, rfl, (fun V h => by rw [h]; exact hn6), (.inr (fun _ h => h)), ?_⟩
            · try simp only [Act.put, List.setIfInBounds_toArray, List.set_cons_succ, List.set_cons_zero]
            try simp only [Act.put, List.setIfInBounds_toArray, List.set_cons_succ, List.set_cons_zero]
            iterate 03 (first
                         | (refine Pu.WalkM.off (by rfl) ?_; simp only [Act.put, List.setIfInBounds_toArray, List.set_cons_succ, List.set_cons_zero])
                         | (apply Pu.WalkM.on (by rfl)
                            · intro V hV
                              go_wp2_with fail
                              refine ⟨rfl, ?_, rfl⟩
                              try simp only [Act.put, List.setIfInBounds_toArray, List.set_cons_succ, List.set_cons_zero]
                              rfl
                            simp only [Act.put, List.setIfInBounds_toArray, List.set_cons_succ, List.set_cons_zero]))
            refine Pu.WalkM.make (by rfl) ?_
            intro V hV
            rw [hV]
            clear hV V
            go_wp2_with (go_at_call 38; refine (cP5.out _ hn6).mono ?_; rintro e W7 ⟨⟨qv, rfl, hqv⟩, hb7⟩)
            have hn7 := hn6.trans (hb7.mono hn6.size)
            have hQ7 : BytesAt W7 0 W7.heap.size qv (packR ds3) := BytesAt.all hqv
            obtain ⟨Aq, cq, rfl, -⟩ := hQ7.form
            have HQB := Lib.hid (fun V (hb : Below W7.heap.size W7 V) => run_string_at (P := Tryz.prog) (w := V) (dst := 9) Tryz.underlying65 Tryz.underlying5 Tryz.underlying9 (hQ7.below hb))
            clear hqv
            refine ⟨rfl, .slice Aq (packR ds3).length cq, (fun V => Below W7.heap.size W7 V), (fun V => V = W7), ?_, rfl, (fun V h => by rw [h]; exact Below.refl _ _), (.inr (fun V h => hn7.trans (h.mono hn7.size))), ?_⟩
            · try simp only [Act.put, List.setIfInBounds_toArray, List.set_cons_succ, List.set_cons_zero]
            try simp only [Act.put, List.setIfInBounds_toArray, List.set_cons_succ, List.set_cons_zero]
            iterate 01 (first
                         | (refine Pu.WalkM.off (by rfl) ?_; simp only [Act.put, List.setIfInBounds_toArray, List.set_cons_succ, List.set_cons_zero])
                         | (apply Pu.WalkM.on (by rfl)
                            · intro V hV
                              have hcv := HQB.out V hV
                              go_wp2_with fail
                              refine ⟨rfl, ?_, rfl⟩
                              try simp only [Act.put, List.setIfInBounds_toArray, List.set_cons_succ, List.set_cons_zero]
                              rfl
                            simp only [Act.put, List.setIfInBounds_toArray, List.set_cons_succ, List.set_cons_zero]))
            refine Pu.WalkM.make (by rfl) ?_
            intro V hV
            rw [hV]
            clear hV V
            go_wp2_with (go_at_call 40; refine (cD5.out _ hn7).mono ?_; rintro e W8 ⟨⟨ru, rfl, hru⟩, hb8⟩)
            have hn8 := hn7.trans (hb8.mono hn7.size)
            obtain ⟨Ar, cr, rfl, -⟩ := hru.form
            have HRB := Lib.hid (fun V (hb : Below W8.heap.size W8 V) => run_string_at (P := Tryz.prog) (w := V) (dst := 9) Tryz.underlying65 Tryz.underlying5 Tryz.underlying9 (hru.below hb))
            refine ⟨rfl, .slice Ar (packR ds3).length cr, (fun V => Below W8.heap.size W8 V), (fun V => V = W8), ?_, rfl, (fun V h => by rw [h]; exact Below.refl _ _), (.inr (fun V h => hb8.trans (h.mono hb8.size))), ?_⟩
            · try simp only [Act.put, List.setIfInBounds_toArray, List.set_cons_succ, List.set_cons_zero]
            try simp only [Act.put, List.setIfInBounds_toArray, List.set_cons_succ, List.set_cons_zero]
            generalize (⟨(packR ds3).toArray⟩ : ByteArray) = sb at *
            iterate 04 (first
                         | (refine Pu.WalkM.off (by rfl) ?_; simp only [Act.put, List.setIfInBounds_toArray, List.set_cons_succ, List.set_cons_zero])
                         | (apply Pu.WalkM.on (by rfl)
                            · intro V hV
                              have hcv := HRB.out V hV
                              go_wp2_with fail
                              refine ⟨rfl, ?_, rfl⟩
                              try simp only [Act.put, List.setIfInBounds_toArray, List.set_cons_succ, List.set_cons_zero]
                              rfl
                            simp only [Act.put, List.setIfInBounds_toArray, List.set_cons_succ, List.set_cons_zero]))
            refine Pu.WalkM.nil ?_
            intro V hV
            rw [hV]
            clear hV V
            have HF := Lib.hid (HS5.out.below.trans (hn8.mono HS5.out.below.size))
            go_wp2
            go_ret
            exact ⟨rfl, HF.out⟩
end Pc
end Go.Proofs.YtdbkkldgobkjcaaGreat

namespace Go.Proofs.YtdbkkldgobkjcaaGreat
open Go.ChangeShapes Go.WideShapes Go.ChangeAt Go.RowKit
namespace Pc
set_option maxRecDepth 100000 in
theorem parcelPacks_lifted (os : Os) (started : os.Started) (H : Type) (enc : TypeId × Value → H) :
    ReturnsInHanded {} Tryz.checked os 6 .any (Rows.parcelPacksSpec.pre6 enc Tryz.prog Tryz.f6 Rows.parcelPacksRow.domain false) (Rows.parcelPacksSpec.post enc Tryz.prog Tryz.f6 false true false false) := by
  refine returnsInHanded_of_change (C := Tryz.checked) own started (by kernel_rfl) Tryz.func6
    (ChangeSpec.witness6 (enc := enc) (C := Tryz.checked) false ⟨#[], #[.slice none 0 0, .agg #[.int .i64 0, .int .i64 0, .int .i64 0, .slice none 0 0]], []⟩ 8 (by kernel_rfl) (by kernel_rfl) (by kernel_rfl) (by kernel_rfl)) ?_
  intro W base args ds gs before hval0 hW _ _
  have hval : ∀ (j : Nat) t v, Tryz.f6.params[j]? = some t → args[j]? = some v → Value.okWide Tryz.prog W .any base t v := hval0
  obtain ⟨p, q, hA0, hV, hps, hfz, hnd⟩ := id hW
  have hA : DataW.TrodAll enc Tryz.prog W 0 (fun _ => true) true Tryz.f6.params.toList args.toList ds p := hA0
  rw [Tryz.params6] at hA hval
  obtain ⟨v0, vs0, d0, ds0, p0, q0, hargs, rfl, rfl, h0, r0⟩ := trodAll_cons hA
  obtain ⟨v1, vs1, d1, ds1, p1, q1, rfl, rfl, rfl, h1, r1⟩ := trodAll_cons r0
  obtain ⟨rfl, rfl, rfl⟩ := trodAll_nil r1
  obtain rfl : args = #[v0, v1] := by cases args; simp_all
  obtain ⟨rfl, rfl⟩ := trodVars_none hV
  obtain ⟨os, hos, fos, dos⟩ := Pc.open_ops (hval 0 22 v0 rfl rfl) h0
  obtain ⟨o, lo, rfl, fo, ho⟩ := Pc.open_op (hval 1 32 v1 rfl rfl) h1
  refine (Pc.packs_law os v0 o lo W hos fos fo ho).mono fun e W' ⟨he, hb⟩ => ?_
  subst he
  exact ⟨_, rfl, law_post laidOut (by kernel_rfl) rfl Tryz.underlying4 rfl hW rfl hb⟩

theorem parcelPacks_holds : Rows.ParcelPacksSaid :=
  OpenClaim.holds_of_wide 6 Tryz.f6 rfl rfl rfl rfl rfl rfl rfl ⟨rfl, rfl, rfl, rfl, rfl⟩ rfl rfl rfl rfl rfl (by kernel_rfl) Tryz.func6 (by kernel_rfl)
    (of_decide_eq_true (by kernel_rfl)) (by unfold Func.isWrapper; first | (rw [if_pos (by decide +kernel)]; kernel_rfl) | (rw [if_neg (by decide +kernel)]; exact ⟨rfl, rfl⟩))
    (fun os started H enc _ => parcelPacks_lifted os started H enc)

end Pc
end Go.Proofs.YtdbkkldgobkjcaaGreat
