/-
  moves: Come, Forget.
  moves: Forget, Go.
  items: what lives says.
  items: lists that may be, in plain words: each is known by how many of each good it has.
  parcels: what they are, and what each call makes of them: plain.
-/
import Derived.Test.YtdbkkldgobkjcaaGreatPd4
namespace Go.Proofs.YtdbkkldgobkjcaaGreat
open Go.RowKit Go.Maps
namespace Mv
open It

theorem hmx : Tryz.prog.follows .mixedOrders = true := by kernel_rfl
def comeOf (ds : List Way) (k : Int) : List Way × List It.Item × Int := match findW ds k with
  | none => (ds, [], 4)
  | some d => if d.came then (ds, [], 5) else (putW ds { d with came := true }, d.l, 0)

theorem insW_mem {d x : Way} {ds : List Way} (h : x ∈ insW d ds) : x = d ∨ x ∈ ds := by
  induction ds with
  | nil => left; simpa [insW] using h
  | cons c r ih =>
    unfold insW at h
    split at h
    · rcases List.mem_cons.1 h with h | h
      · exact .inl h
      · exact .inr h
    · rcases List.mem_cons.1 h with h | h
      · exact .inr (by rw [h]; simp)
      · rcases ih h with h | h
        · exact .inl h
        · exact .inr (List.mem_cons_of_mem _ h)
theorem insW_length (d : Way) (ds : List Way) : (insW d ds).length = ds.length + 1 := by
  induction ds with
  | nil => rfl
  | cons c r ih => unfold insW; split <;> simp [ih]
theorem putW_mem {d x : Way} {ds : List Way} (h : x ∈ putW ds d) : x = d ∨ x ∈ ds := by
  rcases insW_mem h with h | h
  · exact .inl h
  · exact .inr (List.mem_filter.1 h).1
theorem delW_length (ds : List Way) (k : Int) : (delW ds k).length ≤ ds.length := List.length_filter_le _ _
theorem delW_length_lt {ds : List Way} {k : Int} {d : Way} (h : findW ds k = some d) : (delW ds k).length < ds.length := by
  unfold delW
  obtain ⟨h1, h2⟩ := findW_mem h
  refine Nat.lt_of_le_of_ne (List.length_filter_le _ _) fun e => ?_
  have := List.length_filter_eq_length_iff.1 e d h1
  simp [h2] at this
theorem putW_length_known {ds : List Way} {d c : Way} (h : findW ds d.mv = some c) : (putW ds d).length ≤ ds.length := by
  unfold putW
  rw [insW_length]
  have := delW_length_lt h
  omega
theorem putW_length (ds : List Way) (d : Way) : (putW ds d).length ≤ ds.length + 1 := by
  unfold putW
  rw [insW_length]
  have := delW_length ds d.mv
  omega

theorem WayAt.arrive {w : World} {F : Nat → Prop} {d : Way} {v : Value} (h : WayAt w F (wayV d v) d) : WayAt w F (wayV { d with came := true } v) { d with came := true } := by
  obtain ⟨v', lo, B, e, h1, h2, h3⟩ := h
  have e2 : v = v' := by simpa [wayV] using e
  subst e2
  exact ⟨v, lo, B, rfl, h1, h2, h3⟩

set_option maxRecDepth 100000 in
set_option maxHeartbeats 4000000 in
theorem come_calls (k : Int) (b mb : Nat) (X : Nat → Prop) (ds : List Way) (w : World) (h : MvAt w b mb X ds) (h0 : -9223372036854775808 ≤ k) (h1 : k ≤ 9223372036854775807) :
    Calls Tryz.prog 28 #[.pointer (some ⟨b, 0, none⟩), .int .i64 k] w fun e w' =>
      (∃ v, e = .returned (.tuple #[v, .int .i64 (comeOf ds k).2.2]) ∧ w'.ownsRow w.heap.size 37 2 v (comeOf ds k).2.1.length (itemCells (comeOf ds k).2.1)) ∧ MvAt w' b mb X (comeOf ds k).1 ∧ w.grownBy w' (some mb) := by
  obtain ⟨m, hm, hR⟩ := h.map
  have g0 : w.cell? ⟨b, 0, none⟩ = some (.map (some mb)) := h.ob.cell (j := 0) rfl
  have hmb := hm.lt
  have hbl := h.ob.lt
  have hkey := Lib.hid (keyI h0 h1)
  have cM := Lib.hid (made_calls b mb _ g0)
  have HM := Lib.hid hm
  cases hf : findW ds k with
  | none =>
    have hC : comeOf ds k = (ds, [], 4) := by unfold comeOf; rw [hf]
    rw [hC]
    have HG := Lib.hid (show (mGet m k).getD (wayV way0 (.slice none 0 0)) = .agg #[.int .i64 0, .int .i64 0, .int .i64 0, .slice none 0 0, .bool false] by rw [hR.none hf]; rfl)
    have HS := Lib.hid (show (mGet m k).isSome = false by rw [hR.none hf]; rfl)
    have H := Lib.hid h
    clear hC hf hR hm h
    go_enter Tryz.func28, Tryz.ntmps28
    go_wp2_with (first
      | (go_at_call 58; refine cM.out.mono ?_; rintro e W ⟨rfl, rfl⟩)
      | (at_lookup; refine wpList_look_ok_g rfl (.tmp 15) (.tmp 16) _ rfl 3 _ keyedI Tryz.underlying100 rfl HM.out (zeroW _) _ _ rfl hkey.out _ _ HG.out HS.out ?_))
    go_ret2
    have hb := (Below.refl w.heap.size w).alloc (Nat.le_refl _) (.cells #[.int .i64 0, .int .i64 0, .int .i64 0, .slice none 0 0, .bool false] 108)
    exact ⟨⟨_, rfl, World.ownsRow_nil _ _ _ _⟩, H.out.same hb, only_of_below hb _⟩
  | some d =>
    obtain ⟨val, hg, hw⟩ := hR.some hf
    obtain ⟨hmem, hmv⟩ := findW_mem hf
    have hok := h.ok d hmem
    obtain ⟨mv, fr, to_, l, came⟩ := d
    dsimp only at hmv
    subst hmv
    have hl16 := may_len hok.l
    have hput := Lib.hid (fun w' val' (hR' : WayAt w' (fun i => i ≠ b ∧ i ≠ mb ∧ ¬ X i) val' ⟨mv, fr, to_, l, true⟩) (hr : Rel w' (fun i => i ≠ b ∧ i ≠ mb ∧ ¬ X i) m ds) => Rel.put (d := ⟨mv, fr, to_, l, true⟩) hR' hr)
    have hlen2 := Lib.hid (putW_length_known (ds := ds) (d := ⟨mv, fr, to_, l, true⟩) hf)
    have hwa := Lib.hid hw
    obtain ⟨v, rfl, hI⟩ := hw.items
    obtain ⟨A, c, rfl, -⟩ := hI.form
    have HG := Lib.hid (show (mGet m mv).getD (wayV way0 (.slice none 0 0)) = .agg #[.int .i64 mv, .int .i64 fr, .int .i64 to_, .slice A l.length c, .bool came] by rw [hg]; rfl)
    have HS := Lib.hid (show (mGet m mv).isSome = true by rw [hg]; rfl)
    have H := Lib.hid h
    have HR := Lib.hid hR
    dsimp only at hI hl16
    cases came with
    | true =>
      have hC : comeOf ds mv = (ds, [], 5) := by unfold comeOf; rw [hf]; rfl
      rw [hC]
      clear hC hf hR hm h hg hwa hw
      go_enter Tryz.func28, Tryz.ntmps28
      go_wp2_with (first
        | (go_at_call 58; refine cM.out.mono ?_; rintro e W ⟨rfl, rfl⟩)
        | (at_lookup; refine wpList_look_ok_g rfl (.tmp 15) (.tmp 16) _ rfl 3 _ keyedI Tryz.underlying100 rfl HM.out (zeroW _) _ _ rfl hkey.out _ _ HG.out HS.out ?_))
      go_ret2
      have hb := (Below.refl w.heap.size w).alloc (Nat.le_refl _) (.cells #[.int .i64 mv, .int .i64 fr, .int .i64 to_, .slice A l.length c, .bool true] 108)
      exact ⟨⟨_, rfl, World.ownsRow_nil _ _ _ _⟩, H.out.same hb, only_of_below hb _⟩
    | false =>
      have hC : comeOf ds mv = (putW ds ⟨mv, fr, to_, l, true⟩, l, 0) := by unfold comeOf; rw [hf]; rfl
      rw [hC]
      clear hC hf hR hm h hg hw
      go_enter Tryz.func28, Tryz.ntmps28
      go_wp2_with (first
        | (go_at_call 58; refine cM.out.mono ?_; rintro e W ⟨rfl, rfl⟩)
        | (at_lookup; refine wpList_look_ok_g rfl (.tmp 15) (.tmp 16) _ rfl 3 _ keyedI Tryz.underlying100 rfl HM.out (zeroW _) _ _ rfl hkey.out _ _ HG.out HS.out ?_))
      have hb0 := (Below.refl w.heap.size w).alloc (Nat.le_refl _) (.cells #[.int .i64 mv, .int .i64 fr, .int .i64 to_, .slice A l.length c, .bool true] 108)
      have hO := Ob.new w 108 #[.int .i64 mv, .int .i64 fr, .int .i64 to_, .slice A l.length c, .bool true]
      have hgd : (w.alloc (.cells #[.int .i64 mv, .int .i64 fr, .int .i64 to_, .slice A l.length c, .bool true] 108)).grownBy (w.alloc (.cells #[.int .i64 mv, .int .i64 fr, .int .i64 to_, .slice A l.length c, .bool true] 108)).drew none := only_of_below (Below.refl _ _).drew none
      have hgw : w.grownBy (w.alloc (.cells #[.int .i64 mv, .int .i64 fr, .int .i64 to_, .slice A l.length c, .bool true] 108)).drew none := only_of_below hb0.drew none
      generalize hW0 : (w.alloc (.cells #[.int .i64 mv, .int .i64 fr, .int .i64 to_, .slice A l.length c, .bool true] 108)) = W0 at *
      have HW0 := Lib.hid hW0
      clear hW0
      have hOd := hO.kept hgd (by simp)
      have gbd : W0.drew.cell? ⟨b, 0, none⟩ = some (.map (some mb)) := (hgw.cell g0 (by simp))
      have hMd := HM.out.kept hgw (by simp)
      have hm256 : m.length ≤ 256 := by rw [HR.out.length]; exact H.out.len
      refine Pu.regionM [(0, false), (1, false), (2, false), (3, false), (4, false), (5, false), (6, true)] (fun W => Ob W w.heap.size 108 #[.int .i64 mv, .int .i64 fr, .int .i64 to_, .slice A l.length c, .bool true] ∧ W.cell? ⟨b, 0, none⟩ = some (.map (some mb))) hmx (by kernel_rfl) (by kernel_rfl) (by kernel_rfl) ⟨hOd, gbd⟩ rfl ?_
      simp only [Pu.named, List.filterMap_cons, List.filterMap_nil, List.getElem?_toArray, List.getElem?_cons_succ, List.getElem?_cons_zero, Option.map_some]
      iterate 6 (apply Pu.WalkM.on (by rfl)
                 · rintro W ⟨hOW, gW⟩
                   obtain ⟨q0, q1, q2, q3, q4⟩ := hOW.five
                   go_wp2_with fail
                   refine ⟨rfl, ?_, rfl⟩
                   try simp only [Act.put, List.setIfInBounds_toArray, List.set_cons_succ, List.set_cons_zero]
                   rfl
                 simp only [Act.put, List.setIfInBounds_toArray, List.set_cons_succ, List.set_cons_zero])
      refine Pu.WalkM.make (by rfl) ?_
      rintro W rfl
      refine wpList_put_g rfl (.tmp 30) (.tmp 31) (.tmp 32) _ rfl 3 _ keyedI Tryz.underlying100 rfl hMd (by unfold maxLen; omega) _ (.agg #[.int .i64 mv, .int .i64 fr, .int .i64 to_, .slice A l.length c, .bool true]) _ rfl rfl hkey.out ?_
      intro W2 hM2 hg2
      have hne : some w.heap.size ≠ some mb := fun e => by have := Option.some.inj e; omega
      have hO2 := hOd.kept hg2 hne
      have gb2 : W2.cell? ⟨b, 0, none⟩ = some (.map (some mb)) := hg2.cell gbd (fun e => H.out.ne (Option.some.inj e))
      refine ⟨rfl, undef, _, (fun W => W = W2), rfl, rfl, (fun W h => by rw [h]; exact ⟨hO2, gb2⟩), (.inr (fun _ h => h)), Pu.WalkM.nil ?_⟩
      rintro W rfl
      simp only [Act.put]
      have hgwm := (hgw.but (some mb)).trans hg2
      have hR2 := hput.out W _ (hwa.out.arrive.kept hgwm (fun g e => .inl (fun k => k.2.1 (Option.some.inj e).symm)) (fun _ _ h => h)) (HR.out.kept hgwm (fun g e => .inl (fun k => k.2.1 (Option.some.inj e).symm)) (fun _ _ h => h))
      have hMv : MvAt W b mb X (putW ds ⟨mv, fr, to_, l, true⟩) := by
        refine ⟨H.out.ob.kept hgwm (fun e => H.out.ne (Option.some.inj e)), ⟨_, hM2, hR2⟩, H.out.ne, H.out.nx, fun i hi => Nat.lt_of_lt_of_le (H.out.xl i hi) hgwm.size, fun x hx => ?_, Nat.le_trans hlen2.out H.out.len⟩
        rcases putW_mem hx with rfl | hx
        · exact ⟨hok.mv, hok.fr, hok.to_, hok.ne, hok.l, hok.some⟩
        · exact H.out.ok x hx
      obtain ⟨v', lo, B, e, hIv, hBv, hFv⟩ := hwa.out
      have e2 : v' = .slice A l.length c := by simpa [wayV] using e.symm
      subst e2
      have hI2 : ItemsAt W 0 W.heap.size (.slice A l.length c) l := by
        obtain ⟨v2, lo2, B2, e3, h5, h6, h7⟩ := hwa.out.kept hgwm (F' := fun _ => True) (fun g e => .inl (fun k => k.2.1 (Option.some.inj e).symm)) (fun _ _ _ => trivial)
        have e4 : v2 = .slice A l.length c := by simpa [wayV] using e3.symm
        subst e4
        exact h5.wide (Nat.zero_le _) h6
      obtain ⟨q0, q1, q2, q3, q4⟩ := hO2.five
      have cC := Lib.hid (clonei_calls l _ W hI2 (by omega))
      have HMv := Lib.hid hMv
      clear hI2 hMv hR2 hIv hM2
      go_wp2_with fail
      refine cC.out.mono ?_
      rintro e W3 ⟨⟨cv, rfl, hcv⟩, hb3⟩
      obtain ⟨Ac, cc, rfl, -⟩ := (ItemsAt.of_own hcv).form
      go_wp2
      go_ret2
      exact ⟨⟨_, rfl, ownsRow_wide hcv hgwm.size⟩, HMv.out.same hb3, hgwm.trans (only_of_below hb3 _)⟩
end Mv
end Go.Proofs.YtdbkkldgobkjcaaGreat

namespace Go.Proofs.YtdbkkldgobkjcaaGreat
open Go.RowKit Go.Maps
namespace Mv
open It

def forgetOf (ds : List Way) (k : Int) : List Way × Int := match findW ds k with
  | none => (ds, 4)
  | some d => if d.came then (delW ds k, 0) else (ds, 80)

set_option maxRecDepth 100000 in
set_option maxHeartbeats 4000000 in
theorem forget_calls (k : Int) (b mb : Nat) (X : Nat → Prop) (ds : List Way) (w : World) (h : MvAt w b mb X ds) (h0 : -9223372036854775808 ≤ k) (h1 : k ≤ 9223372036854775807) :
    Calls Tryz.prog 30 #[.pointer (some ⟨b, 0, none⟩), .int .i64 k] w fun e w' => e = .returned (.int .i64 (forgetOf ds k).2) ∧ MvAt w' b mb X (forgetOf ds k).1 ∧ w.grownBy w' (some mb) := by
  have cV := move_calls k b mb X ds w h h0 h1
  have hkey := Lib.hid (keyI h0 h1)
  have H := Lib.hid h
  cases hf : findW ds k with
  | none =>
    have hC : forgetOf ds k = (ds, 4) := by unfold forgetOf; rw [hf]
    rw [hC]
    rw [hf] at cV
    have CV := Lib.hid cV
    clear hC hf h cV
    go_enter Tryz.func30, Tryz.ntmps30
    go_wp2_with fail
    refine CV.out.mono ?_
    rintro e W1 ⟨⟨v, rfl, hv⟩, hb1⟩
    obtain ⟨A, c, rfl, -⟩ := (toAt hv).form
    clear hv
    have hb2 := hb1.alloc hb1.size (.cells #[.int .i64 0, .int .i64 0, .int .i64 0, .slice A 0 c, .bool false] 108)
    have hM2 := H.out.same hb2
    have cM := Lib.hid (made_calls b mb _ (hM2.ob.cell (j := 0) rfl))
    simp only [wayV, way0, Option.getD_none, Option.isSome_none, List.length_nil]
    go_wp2_with fail
    refine cM.out.mono ?_
    rintro e W ⟨rfl, rfl⟩
    go_wp2
    go_ret
    exact ⟨rfl, hM2, only_of_below hb2 _⟩
  | some d =>
    obtain ⟨hmem, hmv⟩ := findW_mem hf
    have hlen2 := Lib.hid (delW_length ds k)
    obtain ⟨mv, fr, to_, l, came⟩ := d
    rw [hf] at cV
    have CV := Lib.hid cV
    cases came with
    | false =>
      have hC : forgetOf ds k = (ds, 80) := by unfold forgetOf; rw [hf]; rfl
      rw [hC]
      clear hC hf h cV hmem hmv
      go_enter Tryz.func30, Tryz.ntmps30
      go_wp2_with fail
      refine CV.out.mono ?_
      rintro e W1 ⟨⟨v, rfl, hv⟩, hb1⟩
      obtain ⟨A, c, rfl, -⟩ := (toAt hv).form
      clear hv
      simp only [wayV, Option.getD_some, Option.isSome_some]
      have hb2 := hb1.alloc hb1.size (.cells #[.int .i64 mv, .int .i64 fr, .int .i64 to_, .slice A l.length c, .bool false] 108)
      have hM2 := H.out.same hb2
      have cM := Lib.hid (made_calls b mb _ (hM2.ob.cell (j := 0) rfl))
      go_wp2_with fail
      refine cM.out.mono ?_
      rintro e W ⟨rfl, rfl⟩
      go_wp2
      go_ret
      exact ⟨rfl, hM2, only_of_below hb2 _⟩
    | true =>
      have hC : forgetOf ds k = (delW ds k, 0) := by unfold forgetOf; rw [hf]; rfl
      rw [hC]
      clear hC hf h cV hmem hmv
      go_enter Tryz.func30, Tryz.ntmps30
      go_wp2_with fail
      refine CV.out.mono ?_
      rintro e W1 ⟨⟨v, rfl, hv⟩, hb1⟩
      obtain ⟨A, c, rfl, -⟩ := (toAt hv).form
      clear hv
      simp only [wayV, Option.getD_some, Option.isSome_some]
      have hb2 := hb1.alloc hb1.size (.cells #[.int .i64 mv, .int .i64 fr, .int .i64 to_, .slice A l.length c, .bool true] 108)
      have hM2 := H.out.same hb2
      have g2 : _ = some (Value.map (some mb)) := hM2.ob.cell (j := 0) rfl
      have cM := Lib.hid (made_calls b mb _ g2)
      obtain ⟨m, hm, hR⟩ := hM2.map
      have HM := Lib.hid hm
      have HR := Lib.hid hR
      have HM2 := Lib.hid hM2
      clear hm hR hM2
      go_wp2_with (first
        | (go_at_call 58; refine cM.out.mono ?_; rintro e W ⟨rfl, rfl⟩)
        | (at_delete; refine wpList_del_g rfl (.tmp 27) (.tmp 28) _ 3 rfl _ keyedI Tryz.underlying100 rfl HM.out _ _ rfl hkey.out ?_; intro W3 hM3 hg3))
      go_ret
      have hgw := (only_of_below hb2 (some mb)).trans hg3
      have hR3 := Rel.del k (HR.out.kept hg3 (F' := fun i => i ≠ b ∧ i ≠ mb ∧ ¬ X i) (fun g e => .inl (fun q => q.2.1 (Option.some.inj e).symm)) (fun _ _ h => h))
      exact ⟨rfl, ⟨HM2.out.ob.kept hg3 (fun e => H.out.ne (Option.some.inj e)), ⟨_, hM3, hR3⟩, H.out.ne, H.out.nx, fun i hi => Nat.lt_of_lt_of_le (H.out.xl i hi) hgw.size, fun x hx => H.out.ok x (List.mem_filter.1 hx).1, Nat.le_trans hlen2.out H.out.len⟩, hgw⟩

def goOf (ds : List Way) (mv fr to_ : Int) (l : List It.Item) : List Way × Int :=
  if mv < 1 ∨ 1099511627776 < mv ∨ isR fr = false ∨ isR to_ = false ∨ fr = to_ then (ds, 1)
  else if may l = false ∨ l = [] then (ds, 60)
  else if (findW ds mv).isSome then (ds, 5)
  else if 256 ≤ ds.length then (ds, 2)
  else (putW ds ⟨mv, fr, to_, l, false⟩, 0)
theorem isR_iff (r : Int) : isR r = true ↔ 0 ≤ r ∧ r ≤ 7 := by
  unfold isR
  simp only [Bool.and_eq_true, decide_eq_true_eq]
  omega

set_option maxRecDepth 100000 in
set_option maxHeartbeats 8000000 in
theorem go_calls (mv fr to_ : Int) (l : List It.Item) (lv : Value) (b mb : Nat) (X : Nat → Prop) (ds : List Way) (w : World) (h : MvAt w b mb X ds) (hI : ItemsAt w 0 w.heap.size lv l) (hF : Fits l) (h0 : -9223372036854775808 ≤ mv) (h1 : mv ≤ 9223372036854775807) :
    Calls Tryz.prog 26 #[.pointer (some ⟨b, 0, none⟩), .int .i64 mv, .int .i64 fr, .int .i64 to_, lv] w fun e w' => e = .returned (.int .i64 (goOf ds mv fr to_ l).2) ∧ MvAt w' b mb X (goOf ds mv fr to_ l).1 ∧ w.grownBy w' (some mb) := by
  obtain ⟨m, hm, hR⟩ := h.map
  have g0 : w.cell? ⟨b, 0, none⟩ = some (.map (some mb)) := h.ob.cell (j := 0) rfl
  have hmb := hm.lt
  have hbl := h.ob.lt
  have hkey := Lib.hid (keyI h0 h1)
  have cMd := Lib.hid (made_calls b mb _ g0)
  have cF := Lib.hid (fun W => is_calls fr W)
  have cT := Lib.hid (fun W => is_calls to_ W)
  have cMay := Lib.hid (fun W hI => may_calls l lv W hI hF)
  have HG0 := Lib.hid (show goOf ds mv fr to_ l = if mv < 1 ∨ 1099511627776 < mv ∨ isR fr = false ∨ isR to_ = false ∨ fr = to_ then (ds, 1) else if may l = false ∨ l = [] then (ds, 60) else if (findW ds mv).isSome then (ds, 5) else if 256 ≤ ds.length then (ds, 2) else (putW ds ⟨mv, fr, to_, l, false⟩, 0) from rfl)
  have hval : ∃ x0 x1 x2 A n c x4, (mGet m mv).getD (wayV way0 (.slice none 0 0)) = .agg #[.int .i64 x0, .int .i64 x1, .int .i64 x2, .slice A n c, .bool x4] ∧ (mGet m mv).isSome = (findW ds mv).isSome := by
    cases hf : findW ds mv with
    | none => exact ⟨0, 0, 0, none, 0, 0, false, by rw [hR.none hf]; rfl, by rw [hR.none hf]; rfl⟩
    | some d =>
      obtain ⟨val, hg, hw⟩ := hR.some hf
      obtain ⟨v, rfl, hI⟩ := hw.items
      obtain ⟨A, c, rfl, -⟩ := hI.form
      exact ⟨_, _, _, _, _, _, _, by rw [hg]; rfl, by rw [hg]; rfl⟩
  obtain ⟨x0, x1, x2, A5, n5, c5, x4, hg, hs⟩ := hval
  have HG := Lib.hid hg
  have HS := Lib.hid hs
  have HM := Lib.hid hm
  have HR := Lib.hid hR
  have H := Lib.hid h
  have hb := (Below.refl w.heap.size w).alloc (Nat.le_refl _) (.cells #[.int .i64 x0, .int .i64 x1, .int .i64 x2, .slice A5 n5 c5, .bool x4] 108)
  have hIn := Lib.hid hI
  obtain ⟨Al, cl, rfl, hc1, hc2⟩ := hI.form
  unfold maxLen at hc2
  generalize hkn : (findW ds mv).isSome = kn at *
  generalize hml : may l = ml at *
  have HML := Lib.hid hml
  clear hml
  have HKN := Lib.hid hkn
  generalize goOf ds mv fr to_ l = R at *
  clear hg hs hm hR h hI hkn
  have hcs : (decide (mv < 1) = true ∨ (decide (mv < 1) = false ∧ decide (mv > 1099511627776) = true) ∨ (decide (mv < 1) = false ∧ decide (mv > 1099511627776) = false ∧ isR fr = false) ∨ (decide (mv < 1) = false ∧ decide (mv > 1099511627776) = false ∧ isR fr = true ∧ isR to_ = false) ∨
      (decide (mv < 1) = false ∧ decide (mv > 1099511627776) = false ∧ isR fr = true ∧ isR to_ = true ∧ (fr == to_) = true)) ∨ (decide (mv < 1) = false ∧ decide (mv > 1099511627776) = false ∧ isR fr = true ∧ isR to_ = true ∧ (fr == to_) = false) := by
    by_cases e1 : mv < 1 <;> by_cases e2 : mv > 1099511627776 <;> cases isR fr <;> cases isR to_ <;> by_cases e3 : fr = to_ <;> simp [e1, e2, e3] <;> omega
  rcases hcs with hbad | ⟨e1, e2, e3, e4, e5⟩
  · have hR1 : R = (ds, 1) := by
      rw [HG0.out, if_pos]
      rcases hbad with e1 | ⟨_, e2⟩ | ⟨_, _, e3⟩ | ⟨_, _, _, e4⟩ | ⟨_, _, _, _, e5⟩
      · exact .inl (by simpa using e1)
      · exact .inr (.inl (by simpa using e2))
      · exact .inr (.inr (.inl e3))
      · exact .inr (.inr (.inr (.inl e4)))
      · exact .inr (.inr (.inr (.inr (by simpa using e5))))
    subst hR1
    rcases hbad with e1 | ⟨e1, e2⟩ | ⟨e1, e2, e3⟩ | ⟨e1, e2, e3, e4⟩ | ⟨e1, e2, e3, e4, e5⟩
    case inl | inr.inl =>
      go_enter Tryz.func26, Tryz.ntmps26
      go_wp2_with (first
        | (go_at_call 58; refine cMd.out.mono ?_; rintro e W ⟨rfl, rfl⟩)
        | (at_lookup; refine wpList_look_ok_g rfl (.tmp 20) (.tmp 21) _ rfl 3 _ keyedI Tryz.underlying100 rfl HM.out (zeroW _) _ _ rfl hkey.out _ _ HG.out HS.out ?_))
      go_ret
      exact ⟨rfl, H.out.same hb, only_of_below hb _⟩
    all_goals
      try rw [e3] at cF
      try rw [e4] at cT
      go_enter Tryz.func26, Tryz.ntmps26
      go_wp2_with (first
        | (go_at_call 58; refine cMd.out.mono ?_; rintro e W ⟨rfl, rfl⟩)
        | (at_lookup; refine wpList_look_ok_g rfl (.tmp 20) (.tmp 21) _ rfl 3 _ keyedI Tryz.underlying100 rfl HM.out (zeroW _) _ _ rfl hkey.out _ _ HG.out HS.out ?_)
        | (go_at_call 59; first | ((with_reducible refine (cF.out _).mono ?_); rintro e W ⟨rfl, rfl⟩) | ((with_reducible refine (cT.out _).mono ?_); rintro e W ⟨rfl, rfl⟩)))
      go_ret
      exact ⟨rfl, H.out.same hb, only_of_below hb _⟩
  · have hmv : ¬ mv < 1 ∧ ¬ 1099511627776 < mv := by simp only [decide_eq_false_iff_not] at e1 e2; exact ⟨e1, e2⟩
    have hne : fr ≠ to_ := by simpa using e5
    have hR1 : R = if ml = false ∨ l = [] then (ds, 60) else if kn then (ds, 5) else if 256 ≤ ds.length then (ds, 2) else (putW ds ⟨mv, fr, to_, l, false⟩, 0) := by
      rw [HG0.out, if_neg]
      rintro (h | h | h | h | h)
      · exact hmv.1 h
      · exact hmv.2 h
      · rw [e3] at h; cases h
      · rw [e4] at h; cases h
      · exact hne h
    have HR1 := Lib.hid hR1
    have hfr := (isR_iff fr).1 e3
    have hto := (isR_iff to_).1 e4
    rw [e3] at cF
    rw [e4] at cT
    have cMy := Lib.hid (cMay.out _ (hIn.out.mono hb hb.size))
    clear hR1 cMay
    cases ml with
    | false =>
      obtain rfl : R = (ds, 60) := by rw [HR1.out, if_pos (.inl rfl)]
      go_enter Tryz.func26, Tryz.ntmps26
      go_wp2_with (first
          | (go_at_call 58; refine cMd.out.mono ?_; rintro e W ⟨rfl, rfl⟩)
          | (at_lookup; refine wpList_look_ok_g rfl (.tmp 20) (.tmp 21) _ rfl 3 _ keyedI Tryz.underlying100 rfl HM.out (zeroW _) _ _ rfl hkey.out _ _ HG.out HS.out ?_)
          | (go_at_call 59; first | ((with_reducible refine (cF.out _).mono ?_); rintro e W ⟨rfl, rfl⟩) | ((with_reducible refine (cT.out _).mono ?_); rintro e W ⟨rfl, rfl⟩))
          | (go_at_call 44; refine cMy.out.mono ?_; rintro e W1 ⟨rfl, hb1⟩; have hb2 := hb.trans (hb1.mono hb.size)))
      go_ret
      exact ⟨rfl, H.out.same hb2, only_of_below hb2 _⟩
    | true =>
      by_cases hl0 : l = []
      · obtain rfl : R = (ds, 60) := by rw [HR1.out, if_pos (.inr hl0)]
        have hl1 : l.length = 0 := by rw [hl0]; rfl
        rw [hl1] at cMy ⊢
        clear hl0
        go_enter Tryz.func26, Tryz.ntmps26
        go_wp2_with (first
          | (go_at_call 58; refine cMd.out.mono ?_; rintro e W ⟨rfl, rfl⟩)
          | (at_lookup; refine wpList_look_ok_g rfl (.tmp 20) (.tmp 21) _ rfl 3 _ keyedI Tryz.underlying100 rfl HM.out (zeroW _) _ _ rfl hkey.out _ _ HG.out HS.out ?_)
          | (go_at_call 59; first | ((with_reducible refine (cF.out _).mono ?_); rintro e W ⟨rfl, rfl⟩) | ((with_reducible refine (cT.out _).mono ?_); rintro e W ⟨rfl, rfl⟩))
          | (go_at_call 44; refine cMy.out.mono ?_; rintro e W1 ⟨rfl, hb1⟩; have hb2 := hb.trans (hb1.mono hb.size)))
        go_ret
        exact ⟨rfl, H.out.same hb2, only_of_below hb2 _⟩
      · have hl1 : ((l.length : Int) == 0) = false := by
          cases l with
          | nil => exact (hl0 rfl).elim
          | cons x r => simp; omega
        have HL0 := Lib.hid hl0
        have hR2 : R = if kn then (ds, 5) else if 256 ≤ ds.length then (ds, 2) else (putW ds ⟨mv, fr, to_, l, false⟩, 0) := by
          rw [HR1.out, if_neg]
          rintro (h | h)
          · cases h
          · exact hl0 h
        have HR2 := Lib.hid hR2
        clear hl0 hR2
        cases kn with
        | true =>
          obtain rfl : R = (ds, 5) := by rw [HR2.out]; rfl
          go_enter Tryz.func26, Tryz.ntmps26
          go_wp2_with (first
          | (go_at_call 58; refine cMd.out.mono ?_; rintro e W ⟨rfl, rfl⟩)
          | (at_lookup; refine wpList_look_ok_g rfl (.tmp 20) (.tmp 21) _ rfl 3 _ keyedI Tryz.underlying100 rfl HM.out (zeroW _) _ _ rfl hkey.out _ _ HG.out HS.out ?_)
          | (go_at_call 59; first | ((with_reducible refine (cF.out _).mono ?_); rintro e W ⟨rfl, rfl⟩) | ((with_reducible refine (cT.out _).mono ?_); rintro e W ⟨rfl, rfl⟩))
          | (go_at_call 44; refine cMy.out.mono ?_; rintro e W1 ⟨rfl, hb1⟩; have hb2 := hb.trans (hb1.mono hb.size)))
          go_ret
          exact ⟨rfl, H.out.same hb2, only_of_below hb2 _⟩
        | false =>
          have h256 := H.out.len
          by_cases hfull : 256 ≤ ds.length
          · obtain rfl : R = (ds, 2) := by rw [HR2.out]; exact if_pos hfull
            have hd : decide (256 ≤ ds.length) = true := by simpa using hfull
            have hd2 : decide ((ds.length : Int) ≥ 256) = true := by simp; omega
            clear hfull
            go_enter Tryz.func26, Tryz.ntmps26
            go_wp2_with (first
          | (go_at_call 58; refine cMd.out.mono ?_; rintro e W ⟨rfl, rfl⟩)
          | (at_lookup; refine wpList_look_ok_g rfl (.tmp 20) (.tmp 21) _ rfl 3 _ keyedI Tryz.underlying100 rfl HM.out (zeroW _) _ _ rfl hkey.out _ _ HG.out HS.out ?_)
          | (go_at_call 59; first | ((with_reducible refine (cF.out _).mono ?_); rintro e W ⟨rfl, rfl⟩) | ((with_reducible refine (cT.out _).mono ?_); rintro e W ⟨rfl, rfl⟩))
          | (go_at_call 44; refine cMy.out.mono ?_; rintro e W1 ⟨rfl, hb1⟩; have hb2 := hb.trans (hb1.mono hb.size); have hM1 := H.out.same hb2; have gb1 := (hM1.ob.cell (j := 0) rfl : _ = some (Value.map (some mb))); have hl1 := fun ty => (HM.out.below hb2 hmb).len (tm := 100) Tryz.underlying100 ty; (rw [HR.out.length] at hl1)))
            go_ret
            exact ⟨rfl, H.out.same hb2, only_of_below hb2 _⟩
          · obtain rfl : R = (putW ds ⟨mv, fr, to_, l, false⟩, 0) := by rw [HR2.out]; exact if_neg hfull
            have hd : decide (256 ≤ ds.length) = false := by simpa using hfull
            have hd2 : decide ((ds.length : Int) ≥ 256) = false := by simp; omega
            have hl16 := may_len HML.out
            go_enter Tryz.func26, Tryz.ntmps26
            go_wp2_with (first
          | (go_at_call 58; refine cMd.out.mono ?_; rintro e W ⟨rfl, rfl⟩)
          | (at_lookup; refine wpList_look_ok_g rfl (.tmp 20) (.tmp 21) _ rfl 3 _ keyedI Tryz.underlying100 rfl HM.out (zeroW _) _ _ rfl hkey.out _ _ HG.out HS.out ?_)
          | (go_at_call 59; first | ((with_reducible refine (cF.out _).mono ?_); rintro e W ⟨rfl, rfl⟩) | ((with_reducible refine (cT.out _).mono ?_); rintro e W ⟨rfl, rfl⟩))
          | (go_at_call 44; refine cMy.out.mono ?_; rintro e W1 ⟨rfl, hb1⟩; have hb2 := hb.trans (hb1.mono hb.size); have hM1 := H.out.same hb2; have gb1 := (hM1.ob.cell (j := 0) rfl : _ = some (Value.map (some mb))); have hl1 := fun ty => (HM.out.below hb2 hmb).len (tm := 100) Tryz.underlying100 ty; (rw [HR.out.length] at hl1)))
            have hbd : Below w.heap.size w W1.drew := hb2.drew
            have hdn : W1.grownBy W1.drew none := only_of_below (Below.refl _ W1).drew none
            have gbd : W1.drew.cell? ⟨b, 0, none⟩ = some (.map (some mb)) := gb1
            have HMd := Lib.hid (HM.out.below hbd hmb)
            have cC := Lib.hid (clonei_calls l _ W1.drew (hIn.out.mono hbd hbd.size) (by omega))
            have hm256 : m.length < 256 := by rw [HR.out.length]; omega
            clear hl1
            refine Pu.regionM [(0, false), (1, false), (2, false), (3, false), (4, false), (5, false), (6, false), (7, false), (8, false), (9, true), (10, false), (11, true)] (fun W => W.cell? ⟨b, 0, none⟩ = some (.map (some mb))) hmx (by kernel_rfl) (by kernel_rfl) (by kernel_rfl) gbd rfl ?_
            simp only [Pu.named, List.filterMap_cons, List.filterMap_nil, List.getElem?_toArray, List.getElem?_cons_succ, List.getElem?_cons_zero, Option.map_some]
            iterate 9 (apply Pu.WalkM.on (by rfl)
                       · rintro W gW
                         go_wp2_with fail
                         refine ⟨rfl, ?_, rfl⟩
                         try simp only [Act.put, List.setIfInBounds_toArray, List.set_cons_succ, List.set_cons_zero]
                         rfl
                       simp only [Act.put, List.setIfInBounds_toArray, List.set_cons_succ, List.set_cons_zero])
            refine Pu.WalkM.make (by rfl) ?_
            rintro W rfl
            go_wp2_with (go_at_call 45; refine cC.out.mono ?_; rintro e W2 ⟨⟨cv, rfl, hcv⟩, hb3⟩)
            have gb2 : W2.cell? ⟨b, 0, none⟩ = some (.map (some mb)) := (hb3.cell (p := ⟨b, 0, none⟩) (Nat.lt_of_lt_of_le hbl hbd.size)).trans gbd
            have HCV := Lib.hid hcv
            obtain ⟨Ac, cc, rfl, -⟩ := (ItemsAt.of_own hcv).form
            clear hcv
            refine ⟨rfl, .slice Ac l.length cc, _, (fun W => W = W2), ?_, rfl, (fun W h => by rw [h]; exact gb2), (.inr (fun _ h => h)), ?_⟩
            · simp only [Act.put, List.setIfInBounds_toArray, List.set_cons_succ, List.set_cons_zero]
            simp only [Act.put, List.setIfInBounds_toArray, List.set_cons_succ, List.set_cons_zero]
            apply Pu.WalkM.on (by rfl)
            · rintro W gW
              go_wp2_with fail
              refine ⟨rfl, ?_, rfl⟩
              try simp only [Act.put, List.setIfInBounds_toArray, List.set_cons_succ, List.set_cons_zero]
              rfl
            simp only [Act.put, List.setIfInBounds_toArray, List.set_cons_succ, List.set_cons_zero]
            refine Pu.WalkM.make (by rfl) ?_
            rintro W rfl
            have hb5 : Below w.heap.size w W := hbd.trans (hb3.mono hbd.size)
            refine wpList_put_g rfl (.tmp 68) (.tmp 69) (.tmp 75) _ rfl 3 _ keyedI Tryz.underlying100 rfl (HM.out.below hb5 hmb) (by unfold maxLen; omega) _ (.agg #[.int .i64 mv, .int .i64 fr, .int .i64 to_, .slice Ac l.length cc, .bool false]) _ rfl rfl hkey.out ?_
            intro W3 hM3 hg3
            have gb3 : W3.cell? ⟨b, 0, none⟩ = some (.map (some mb)) := hg3.cell gb2 (fun e => H.out.ne (Option.some.inj e))
            refine ⟨rfl, undef, _, (fun W => W = W3), rfl, rfl, (fun W h => by rw [h]; exact gb3), (.inr (fun _ h => h)), Pu.WalkM.nil ?_⟩
            rintro W' rfl
            simp only [Act.put]
            have hgw := (only_of_below hb5 (some mb)).trans hg3
            have hnw : ∀ g, some mb = some g → ¬ (g ≠ b ∧ g ≠ mb ∧ ¬ X g) := fun g e k => k.2.1 (Option.some.inj e).symm
            have hwa : WayAt W (fun i => i ≠ b ∧ i ≠ mb ∧ ¬ X i) (wayV ⟨mv, fr, to_, l, false⟩ (.slice Ac l.length cc)) ⟨mv, fr, to_, l, false⟩ :=
              ⟨_, W1.drew.heap.size, W.heap.size, rfl, ItemsAt.of_own HCV.out, Nat.le_refl _, fun i hi1 hi2 => ⟨by have := hbd.size; omega, by have := hbd.size; omega, fun hx => by have := H.out.xl i hx; have := hbd.size; omega⟩⟩
            have hRw := Rel.put (hwa.kept hg3 (F' := fun i => i ≠ b ∧ i ≠ mb ∧ ¬ X i) (fun g e => .inl (hnw g e)) (fun _ _ h => h)) (HR.out.kept hgw (F' := fun i => i ≠ b ∧ i ≠ mb ∧ ¬ X i) (fun g e => .inl (hnw g e)) (fun _ _ h => h))
            have hMv : MvAt W' b mb X (putW ds ⟨mv, fr, to_, l, false⟩) := by
              refine ⟨H.out.ob.kept hgw (fun e => H.out.ne (Option.some.inj e)), ⟨_, hM3, hRw⟩, H.out.ne, H.out.nx, fun i hi => Nat.lt_of_lt_of_le (H.out.xl i hi) hgw.size, fun x hx => ?_, ?_⟩
              · rcases putW_mem hx with rfl | hx
                · exact ⟨hmv, hfr, hto, hne, HML.out, HL0.out⟩
                · exact H.out.ok x hx
              · have := putW_length ds ⟨mv, fr, to_, l, false⟩
                omega
            clear hM3 hRw
            go_wp2
            go_ret
            exact ⟨rfl, hMv, hgw⟩
end Mv
end Go.Proofs.YtdbkkldgobkjcaaGreat

namespace Go.Proofs.YtdbkkldgobkjcaaGreat
open Go.RowKit Go.Maps
namespace It

def sa : ByteArray := ⟨#[97]⟩
def sb : ByteArray := ⟨#[98]⟩
def sc : ByteArray := ⟨#[99]⟩
def la : List Item := [(sa, 3), (sb, 2)]
def lb : List Item := [(sa, 1), (sc, 5)]
theorem l_meet : both meetF la lb = [(sa, 1)] := by kernel_rfl
theorem l_rest : both restF la lb = [(sa, 2), (sb, 2)] := by kernel_rfl
theorem l_plus : plusOf la lb = ([(sa, 4), (sb, 2), (sc, 5)], 0) := by kernel_rfl
theorem l_minus : minusOf la lb = ([], 51) := by kernel_rfl
theorem l_covers : covers la [(sa, 1)] = true := by kernel_rfl
theorem l_of : ofSum sb la = 2 := by kernel_rfl
theorem l_may : may la = true := by kernel_rfl
theorem fitsA : Fits la := by
  intro x hx
  simp only [la, List.mem_cons, List.not_mem_nil, or_false] at hx
  rcases hx with rfl | rfl <;> exact ⟨by simp [sa, sb, ByteArray.size, maxLen], by omega, by omega⟩
theorem fitsB : Fits lb := by
  intro x hx
  simp only [lb, List.mem_cons, List.not_mem_nil, or_false] at hx
  rcases hx with rfl | rfl <;> exact ⟨by simp [sa, sc, ByteArray.size, maxLen], by omega, by omega⟩
theorem fitsM : Fits [(sa, 1)] := by
  intro x hx
  simp only [List.mem_cons, List.not_mem_nil, or_false] at hx
  rcases hx with rfl
  exact ⟨by simp [sa, ByteArray.size, maxLen], by omega, by omega⟩

theorem neq_nil (b : Nat) (w : World) : (binOp .neq 145 (.func (.func 117) #[] #[.pointer (some ⟨b, 0, none⟩)]) .nilFunc).run Tryz.prog w = .ok (.bool true) w := by kernel_rfl

end It
end Go.Proofs.YtdbkkldgobkjcaaGreat

namespace Go.Proofs.YtdbkkldgobkjcaaGreat
open Go.RowKit Go.Maps
namespace It

theorem toList_key (s : ByteArray) : s.toList = s.data.toList := ByteArray.toList_eq s
theorem strLe_eq (a b : ByteArray) : strLe a b = !(Op.bytesLess b.toList a.toList) := by
  unfold strLe
  rw [less_eq, less_eq, Bool.eq_iff_iff]
  simp only [Bool.or_eq_true, decide_eq_true_eq, beq_iff_eq, Bool.not_eq_true', decide_eq_false_iff_not]
  constructor
  · rintro (h | h) h2
    · exact bs_asy _ _ h h2
    · rw [h] at h2; exact bs_irr _ h2
  · intro h
    rcases bs_tri a.toList b.toList with h1 | h1 | h1
    · exact .inl h1
    · exact .inr h1
    · exact absurd h1 h

def okI (x : Item) : Bool := good x.1 && decide (1 ≤ x.2) && countOk x.2
theorem okItem_eq (x : Item) (last : ByteArray) : okItem x last = (okI x && decide (last.data.toList < key x)) := by
  unfold okItem okI key
  rw [strLe_eq, Bool.not_not, less_eq, toList_key, toList_key]
theorem mayTo_iff : ∀ (l : List Item) (last : ByteArray), mayTo last l = true ↔ (∀ x ∈ l, okI x = true) ∧ (last.data.toList :: l.map key).Pairwise (· < ·)
  | [], last => by simp [mayTo]
  | x :: r, last => by
    simp only [mayTo, okItem_eq, Bool.and_eq_true, mayTo_iff r x.1, decide_eq_true_eq, List.map_cons]
    rw [show x.1.data.toList = key x from rfl]
    simp only [List.pairwise_cons, List.mem_cons, List.mem_map, forall_eq_or_imp]
    constructor
    · rintro ⟨⟨h1, h2⟩, h3, h4, h5⟩
      refine ⟨⟨h1, h3⟩, ⟨h2, fun a ha => List.lt_trans h2 (h4 a ha)⟩, h4, h5⟩
    · rintro ⟨⟨h1, h3⟩, ⟨h2, _⟩, h4, h5⟩
      exact ⟨⟨h1, h2⟩, h3, h4, h5⟩

/-- a list that may be -/
structure M (l : List Item) : Prop where
  len : l.length ≤ 16
  ok : ∀ x ∈ l, good x.1 = true ∧ 1 ≤ x.2 ∧ x.2 ≤ 1099511627776
  sorted : l.Pairwise fun a b => key a < key b
theorem good_key {x : Item} (h : good x.1 = true) : [] < key x := by
  unfold good at h
  simp only [Bool.and_eq_true, decide_eq_true_eq] at h
  have h1 := h.1.2
  unfold key
  rw [← ByteArray.size_data] at h1
  have h2 : x.1.data.toList.length = x.1.data.size := by simp
  match hl : x.1.data.toList with
  | [] => rw [hl] at h2; simp at h2; omega
  | c :: r => simp
theorem okI_iff (x : Item) : okI x = true ↔ good x.1 = true ∧ 1 ≤ x.2 ∧ x.2 ≤ 1099511627776 := by
  unfold okI
  simp only [Bool.and_eq_true, decide_eq_true_eq, countOk_iff]
  constructor
  · rintro ⟨⟨h1, h2⟩, h3⟩; exact ⟨h1, h2, h3.2⟩
  · rintro ⟨h1, h2, h3⟩; exact ⟨⟨h1, h2⟩, by omega, h3⟩
theorem may_iff (l : List Item) : may l = true ↔ M l := by
  unfold may
  rw [Bool.and_eq_true, decide_eq_true_eq, mayTo_iff]
  constructor
  · rintro ⟨⟨h1, h2⟩, h3⟩
    refine ⟨h3, fun x hx => (okI_iff x).1 (h1 x hx), ?_⟩
    have := (List.pairwise_cons.1 h2).2
    rwa [List.pairwise_map] at this
  · rintro ⟨h1, h2, h3⟩
    refine ⟨⟨fun x hx => (okI_iff x).2 (h2 x hx), List.pairwise_cons.2 ⟨fun k hk => ?_, ?_⟩⟩, h1⟩
    · obtain ⟨x, hx, rfl⟩ := List.mem_map.1 hk
      exact good_key (h2 x hx).1
    · rw [List.pairwise_map]; exact h3

theorem key_item (x : Item) : ∀ y : Item, key x = key y → x.2 = y.2 → x = y := fun y h1 h2 => by
  rw [item_eta x, item_eta y, h1, h2]
theorem tot_mem {l : List Item} (h : l.Pairwise fun a b => key a < key b) {x : Item} (hx : x ∈ l) : tot (key x) l = x.2 := by
  induction l with
  | nil => cases hx
  | cons y r ih =>
    have h' := List.pairwise_cons.1 h
    simp only [tot]
    rcases List.mem_cons.1 hx with rfl | hx
    · rw [if_pos rfl, tot_out, Int.add_zero]
      intro hk
      obtain ⟨z, hz, e⟩ := List.mem_map.1 hk
      have := h'.1 z hz
      rw [e] at this
      exact bs_irr _ this
    · rw [ih h'.2 hx, if_neg, Int.zero_add]
      intro e
      have := h'.1 x hx
      rw [e] at this
      exact bs_irr _ this
theorem tot_pos {k : Bs} {l : List Item} (h : tot k l ≠ 0) : k ∈ l.map key := Decidable.byContradiction fun hk => h (tot_out hk)
theorem M.nonneg {l : List Item} (h : M l) (k : Bs) : 0 ≤ tot k l := by
  by_cases hk : k ∈ l.map key
  · obtain ⟨x, hx, rfl⟩ := List.mem_map.1 hk
    rw [tot_mem h.sorted hx]
    have := h.ok x hx; omega
  · rw [tot_out hk]; omega
theorem M.le {l : List Item} (h : M l) (k : Bs) : tot k l ≤ 1099511627776 := by
  by_cases hk : k ∈ l.map key
  · obtain ⟨x, hx, rfl⟩ := List.mem_map.1 hk
    rw [tot_mem h.sorted hx]
    have := h.ok x hx; omega
  · rw [tot_out hk]; omega
theorem M.norm {a b : List Item} (hb : b.Pairwise fun a b => key a < key b) (hp : ∀ x ∈ b, 0 < x.2) (hk : ∀ k, tot k a = tot k b) : IsNorm a b := by
  refine ⟨hb, fun x => ⟨fun hx => ?_, fun ⟨h1, h2, h3⟩ => ?_⟩⟩
  · have h1 := tot_mem hb hx
    have h2 := hp x hx
    rw [← hk] at h1
    exact ⟨tot_pos (by omega), h1.symm, h2⟩
  · rw [hk] at h2
    obtain ⟨y, hy, e⟩ := List.mem_map.1 (tot_pos (k := key x) (l := b) (by omega))
    have := tot_mem hb hy
    rw [e, ← h2] at this
    rw [key_item x y e.symm this]
    exact hy
theorem M.ext {a b : List Item} (ha : M a) (hb : M b) (hk : ∀ k, tot k a = tot k b) : a = b :=
  (M.norm ha.sorted (fun x hx => by have := ha.ok x hx; omega) (fun _ => rfl)).unique (M.norm hb.sorted (fun x hx => by have := hb.ok x hx; omega) hk)

/-! Of, as a sum -/
theorem wrap_small {n : Int} (h1 : -9223372036854775808 ≤ n) (h2 : n ≤ 9223372036854775807) : wrap64 n = n := by unfold wrap64; omega
theorem ofStep_key (s : ByteArray) (t : Int) (x : Item) : ofStep s t x = if key x = s.data.toList then wrap64 (t + x.2) else t := by
  unfold ofStep key
  rw [toList_key, toList_key]
  by_cases h : x.1.data.toList = s.data.toList
  · rw [if_pos (by simpa using h), if_pos h]
  · rw [if_neg (by simpa using h), if_neg h]
theorem ofSum_foldl (s : ByteArray) : ∀ (l : List Item) (t : Int), (∀ x ∈ l, 0 ≤ x.2 ∧ x.2 ≤ 1099511627776) → 0 ≤ t → t + l.length * 1099511627776 ≤ 9223372036854775807 → l.foldl (ofStep s) t = t + tot s.data.toList l
  | [], t, _, _, _ => by simp [tot]
  | x :: l, t, h, h0, h1 => by
    have hx := h x (by simp)
    simp only [List.length_cons] at h1
    rw [List.foldl_cons, ofStep_key]
    simp only [tot]
    by_cases e : key x = s.data.toList
    · rw [if_pos e, if_pos e, wrap_small (by omega) (by omega), ofSum_foldl s l _ (fun y hy => h y (by simp [hy])) (by omega) (by omega)]
      omega
    · rw [if_neg e, if_neg e, ofSum_foldl s l _ (fun y hy => h y (by simp [hy])) h0 (by omega)]
      omega
theorem M.of {l : List Item} (h : M l) (s : ByteArray) : ofSum s l = tot s.data.toList l := by
  have := ofSum_foldl s l 0 (fun x hx => by have := h.ok x hx; omega) (Int.le_refl _) (by have := h.len; omega)
  unfold ofSum
  omega

/-! what is made of each item of a list -/
def made (h : Item → Int) (a : List Item) : List Item := a.filterMap fun x => if 0 < h x then some (x.1, h x) else none
theorem made_nil (h : Item → Int) : made h [] = [] := rfl
theorem made_cons (h : Item → Int) (x : Item) (l : List Item) : made h (x :: l) = (if 0 < h x then [(x.1, h x)] else []) ++ made h l := by
  unfold made
  rw [List.filterMap_cons]
  split <;> rename_i e <;> split at e <;> simp_all
theorem made_mem {h : Item → Int} {a : List Item} {y : Item} (hy : y ∈ made h a) : ∃ x ∈ a, key x = key y ∧ x.1 = y.1 ∧ y.2 = h x ∧ 0 < h x := by
  unfold made at hy
  obtain ⟨x, hx, e⟩ := List.mem_filterMap.1 hy
  split at e
  · cases e; exact ⟨x, hx, rfl, rfl, rfl, by assumption⟩
  · cases e
theorem made_sorted {h : Item → Int} {a : List Item} (ha : a.Pairwise fun a b => key a < key b) : (made h a).Pairwise fun a b => key a < key b := by
  unfold made
  rw [List.pairwise_filterMap]
  refine ha.imp fun {x y} hxy u hu v hv => ?_
  split at hu <;> cases hu
  split at hv <;> cases hv
  exact hxy
theorem made_M {h : Item → Int} {a : List Item} (ha : M a) (hh : ∀ x ∈ a, h x ≤ 1099511627776) : M (made h a) := by
  refine ⟨Nat.le_trans (List.length_filterMap_le _ _) ha.len, fun y hy => ?_, made_sorted ha.sorted⟩
  obtain ⟨x, hx, _, e, e2, h3⟩ := made_mem hy
  have := hh x hx
  rw [← e, e2]
  exact ⟨(ha.ok x hx).1, by omega, this⟩
theorem made_tot (h : Item → Int) (k : Bs) : ∀ (a : List Item), a.Pairwise (fun a b => key a < key b) → tot k (made h a) = match a.find? (fun x => decide (key x = k)) with | some x => (if 0 < h x then h x else 0) | none => 0
  | [], _ => rfl
  | x :: l, ha => by
    have h' := List.pairwise_cons.1 ha
    rw [made_cons, tot_append, made_tot h k l h'.2, List.find?_cons]
    by_cases e : key x = k
    · have hn : l.find? (fun x => decide (key x = k)) = none := by
        rw [List.find?_eq_none]
        intro y hy
        simp only [decide_eq_true_eq]
        intro e2
        have := h'.1 y hy
        rw [e, e2] at this
        exact bs_irr _ this
      simp only [hn, e, decide_true]
      split
      · simp [tot, key] at *; simp [e]
      · simp [tot]
    · simp only [e, decide_false]
      split
      · have : key (x.1, h x) = key x := rfl
        simp [tot, this, e]
      · simp [tot]
theorem find_none {k : Bs} {a : List Item} (h : a.find? (fun x => decide (key x = k)) = none) : k ∉ a.map key := by
  rw [List.find?_eq_none] at h
  intro hk
  obtain ⟨x, hx, e⟩ := List.mem_map.1 hk
  exact h x hx (by simpa using e)
theorem find_some {k : Bs} {a : List Item} {x : Item} (h : a.find? (fun x => decide (key x = k)) = some x) : x ∈ a ∧ key x = k := by
  exact ⟨List.mem_of_find?_eq_some h, by simpa using List.find?_some h⟩
/-- of each good: what is made of how many there are -/
theorem made_of {h : Item → Int} {a : List Item} (ha : M a) (g : Bs → Int → Int) (hg : ∀ x ∈ a, h x = g (key x) x.2) (h0 : ∀ k, g k 0 ≤ 0) (k : Bs) : tot k (made h a) = if 0 < g k (tot k a) then g k (tot k a) else 0 := by
  rw [made_tot h k a ha.sorted]
  cases hf : a.find? (fun x => decide (key x = k)) with
  | none =>
    have := h0 k
    rw [tot_out (find_none hf)]
    simp only
    rw [if_neg (by omega)]
  | some x =>
    obtain ⟨hx, rfl⟩ := find_some hf
    simp only
    rw [tot_mem ha.sorted hx, hg x hx]

theorem eachL_made (f : Int → Int → Int) (a b : List Item) : eachL f a b = made (fun x => f x.2 (ofSum x.1 b)) a := rfl
theorem meet_M {a b : List Item} (ha : M a) (_hb : M b) : M (eachL meetF a b) := by
  rw [eachL_made]
  refine made_M ha fun x hx => ?_
  have := ha.ok x hx
  unfold meetF
  omega
theorem rest_M {a b : List Item} (ha : M a) (hb : M b) : M (eachL restF a b) := by
  rw [eachL_made]
  refine made_M ha fun x hx => ?_
  have := ha.ok x hx
  have h1 := hb.nonneg x.1.data.toList
  have h2 := hb.le x.1.data.toList
  unfold restF
  rw [hb.of, wrap_small (by omega) (by omega)]
  omega
theorem meet_tot {a b : List Item} (ha : M a) (hb : M b) (k : Bs) : tot k (eachL meetF a b) = min (tot k a) (tot k b) := by
  rw [eachL_made, made_of ha (fun k n => min n (tot k b)) (fun x hx => by unfold meetF key; rw [hb.of]) (fun k => by have := hb.nonneg k; omega)]
  have := ha.nonneg k
  have := hb.nonneg k
  split <;> omega
theorem rest_tot {a b : List Item} (ha : M a) (hb : M b) (k : Bs) : tot k (eachL restF a b) = max 0 (tot k a - tot k b) := by
  rw [eachL_made, made_of ha (fun k n => n - tot k b) (fun x hx => by
    have h1 := hb.nonneg x.1.data.toList
    have h2 := hb.le x.1.data.toList
    have := ha.ok x hx
    unfold restF key; rw [hb.of, wrap_small (by omega) (by omega)]) (fun k => by have := hb.nonneg k; omega)]
  split <;> omega
theorem rest_nil {a b : List Item} (ha : M a) (hb : M b) : eachL restF b a = [] ↔ ∀ k, tot k b ≤ tot k a := by
  constructor
  · intro h k
    have := rest_tot hb ha k
    rw [h] at this
    simp only [tot] at this
    omega
  · intro h
    refine (rest_M hb ha).ext ⟨by simp, (fun x hx => by cases hx), List.Pairwise.nil⟩ fun k => ?_
    rw [rest_tot hb ha]
    have := h k
    simp only [tot]
    omega
theorem covers_iff {a b : List Item} (ha : M a) (hb : M b) : covers a b = true ↔ ∀ k, tot k b ≤ tot k a := by
  unfold covers both
  rw [(may_iff a).2 ha, (may_iff b).2 hb]
  simp only [Bool.and_self, if_true, Bool.true_and]
  rw [← rest_nil ha hb, beq_iff_eq, List.length_eq_zero_iff]
theorem covers_eq {a b : List Item} (ha : M a) (hb : M b) (p : Prop) [Decidable p] (h : p ↔ ∀ k, tot k b ≤ tot k a) : covers a b = decide p := by
  rw [Bool.eq_iff_iff, covers_iff ha hb, decide_eq_true_eq, h]

/-! sums of lists that may be -/
theorem M.okC {l : List Item} (h : M l) : l.all okC = true := by
  rw [List.all_eq_true]
  intro x hx
  unfold It.okC
  have := h.ok x hx
  rw [this.1, Bool.true_and, countOk_iff]
  omega
theorem over_iff {l : List Item} : over l = true ↔ ∃ k, 1099511627776 < tot k l := by
  unfold over
  rw [List.any_eq_true]
  constructor
  · rintro ⟨x, _, hd⟩
    exact ⟨key x, by simpa using hd⟩
  · rintro ⟨k, hk⟩
    obtain ⟨x, hx, rfl⟩ := List.mem_map.1 (tot_pos (k := k) (l := l) (by omega))
    exact ⟨x, hx, by simpa using hk⟩
theorem normL_of {L out : List Item} (h : IsNorm L out) : normL L = out := (isNorm_normL L).unique h
theorem norm_tot {L : List Item} (h : ∀ k, 0 ≤ tot k L) (k : Bs) : tot k (normL L) = tot k L := by
  have hn := isNorm_normL L
  by_cases hk : k ∈ (normL L).map key
  · obtain ⟨x, hx, rfl⟩ := List.mem_map.1 hk
    rw [tot_mem hn.sorted hx]
    exact ((hn.has x).1 hx).2.1
  · rw [tot_out hk]
    by_cases h0 : tot k L = 0
    · exact h0.symm
    · exfalso
      refine hk (List.mem_map.2 ⟨(⟨k.toArray⟩, tot k L), (hn.has _).2 ?_, key_mk _ _⟩)
      rw [key_mk]
      have := h k
      exact ⟨tot_pos h0, rfl, by simp only; omega⟩
theorem normL_M {L : List Item} (hg : ∀ x ∈ L, good x.1 = true) (ho : ∀ k, tot k L ≤ 1099511627776) (hl : (normL L).length ≤ 16) : M (normL L) := by
  have hn := isNorm_normL L
  refine ⟨hl, fun x hx => ?_, hn.sorted⟩
  obtain ⟨h1, h2, h3⟩ := (hn.has x).1 hx
  obtain ⟨y, hy, e⟩ := List.mem_map.1 h1
  have hg1 := hg y hy
  have e1 : y.1 = x.1 := by
    have h1 := congrArg (fun z : Item => z.1) (item_eta y)
    have h2 := congrArg (fun z : Item => z.1) (item_eta x)
    simp only at h1 h2
    rw [h1, h2, e]
  rw [e1] at hg1
  have := ho (key x)
  exact ⟨hg1, by omega, by omega⟩

/-- two lists together -/
theorem plus_cases {a b : List Item} (ha : M a) (hb : M b) :
    (plusOf a b).2 = 0 → M (plusOf a b).1 ∧ ∀ k, tot k (plusOf a b).1 = tot k a + tot k b := by
  intro h
  unfold plusOf at h ⊢
  rw [(may_iff a).2 ha, (may_iff b).2 hb] at h ⊢
  simp only [Bool.and_self, if_true] at h ⊢
  have hall : (a ++ b).all okC = true := by rw [List.all_append, ha.okC, hb.okC]; rfl
  have hnn : ∀ k, 0 ≤ tot k (a ++ b) := fun k => tot_nonneg k _ hall
  unfold normRes sumsCode at h ⊢
  simp only [hall, if_true] at h ⊢
  cases hov : over (a ++ b) with
  | true => rw [hov] at h; simp at h
  | false =>
    rw [hov] at h
    simp only [Bool.false_eq_true, if_false, if_true] at h ⊢
    by_cases hl : (normL (a ++ b)).length ≤ 16
    · rw [if_pos hl] at h ⊢
      refine ⟨normL_M (fun x hx => ?_) (tot_le hov) hl, fun k => ?_⟩
      · rcases List.mem_append.1 hx with hx | hx
        · exact (ha.ok x hx).1
        · exact (hb.ok x hx).1
      · simp only
        rw [norm_tot hnn, tot_append]
    · rw [if_neg hl] at h
      simp at h
theorem plus_ok {a b c : List Item} (ha : M a) (hb : M b) (hc : M c) (h : ∀ k, tot k a + tot k b = tot k c) : plusOf a b = (c, 0) := by
  unfold plusOf
  rw [(may_iff a).2 ha, (may_iff b).2 hb]
  simp only [Bool.and_self, if_true]
  have hall : (a ++ b).all okC = true := by rw [List.all_append, ha.okC, hb.okC]; rfl
  have hnn : ∀ k, 0 ≤ tot k (a ++ b) := fun k => tot_nonneg k _ hall
  have hov : over (a ++ b) = false := by
    cases hov : over (a ++ b) with
    | false => rfl
    | true =>
      obtain ⟨k, hk⟩ := over_iff.1 hov
      rw [tot_append, h k] at hk
      have := hc.le k
      omega
  have hn : normL (a ++ b) = c := by
    refine normL_of ⟨hc.sorted, fun x => ⟨fun hx => ?_, fun ⟨h1, h2, h3⟩ => ?_⟩⟩
    · have h1 := tot_mem hc.sorted hx
      have h2 := hc.ok x hx
      rw [← h, ← tot_append] at h1
      exact ⟨tot_pos (by omega), h1.symm, by omega⟩
    · rw [tot_append, h] at h2
      obtain ⟨y, hy, e⟩ := List.mem_map.1 (tot_pos (k := key x) (l := c) (by omega))
      have := tot_mem hc.sorted hy
      rw [e, ← h2] at this
      rw [key_item x y e.symm this]
      exact hy
  unfold normRes sumsCode
  simp only [hall, hov, hn, hc.len, if_true, Bool.false_eq_true, if_false]

/-! totals -/
def sumN : List Item → Int
  | [] => 0
  | x :: l => x.2 + sumN l
theorem totSum_foldl : ∀ (l : List Item) (t : Int), (∀ x ∈ l, 0 ≤ x.2 ∧ x.2 ≤ 1099511627776) → 0 ≤ t → t + l.length * 1099511627776 ≤ 9223372036854775807 → l.foldl totStep t = t + sumN l
  | [], t, _, _, _ => by simp [sumN]
  | x :: l, t, h, h0, h1 => by
    have hx := h x (by simp)
    simp only [List.length_cons] at h1
    rw [List.foldl_cons, show totStep t x = t + x.2 from wrap_small (by omega) (by omega), totSum_foldl l _ (fun y hy => h y (by simp [hy])) (by omega) (by omega)]
    simp only [sumN]
    omega
theorem M.sum {l : List Item} (h : M l) : totSum l = sumN l := by
  have := totSum_foldl l 0 (fun x hx => by have := h.ok x hx; omega) (Int.le_refl _) (by have := h.len; omega)
  unfold totSum
  omega
def sumK (l : List Item) : List Bs → Int
  | [] => 0
  | k :: r => tot k l + sumK l r
theorem sumK_nil : ∀ ks : List Bs, sumK [] ks = 0
  | [] => rfl
  | k :: r => by simp [sumK, tot, sumK_nil r]
theorem sumK_cons (x : Item) (l : List Item) : ∀ ks : List Bs, ks.Nodup → sumK (x :: l) ks = (if key x ∈ ks then x.2 else 0) + sumK l ks
  | [], _ => by simp [sumK]
  | k :: r, h => by
    have h' := List.nodup_cons.1 h
    simp only [sumK, sumK_cons x l r h'.2, tot, List.mem_cons]
    by_cases e : key x = k
    · have hn : key x ∉ r := by rw [e]; exact h'.1
      rw [if_pos e, if_neg hn, if_pos (.inl e)]
      omega
    · rw [if_neg e]
      by_cases hr : key x ∈ r
      · rw [if_pos hr, if_pos (.inr hr)]; omega
      · rw [if_neg hr, if_neg (by simp [e, hr])]; omega
theorem sumK_eq {ks : List Bs} (h : ks.Nodup) : ∀ l : List Item, (∀ x ∈ l, key x ∈ ks) → sumK l ks = sumN l
  | [], _ => by rw [sumK_nil]; rfl
  | x :: l, hk => by
    rw [sumK_cons x l ks h, if_pos (hk x (by simp)), sumK_eq h l fun y hy => hk y (by simp [hy])]
    rfl
theorem sumK_add {a b c : List Item} (h : ∀ k, tot k c = tot k a + tot k b) : ∀ ks : List Bs, sumK c ks = sumK a ks + sumK b ks
  | [] => rfl
  | k :: r => by simp only [sumK, h, sumK_add h r]; omega
theorem sumN_add {a b c : List Item} (h : ∀ k, tot k c = tot k a + tot k b) : sumN c = sumN a + sumN b := by
  have hn : (ksOf ((a ++ b ++ c).map key)).Nodup := by
    rw [List.nodup_iff_pairwise_ne]
    refine (ksOf_sorted _).imp fun {x y} h e => ?_
    rw [e] at h
    exact bs_irr _ h
  rw [← sumK_eq hn a fun x hx => (ksOf_mem _ _).2 (List.mem_map.2 ⟨x, by simp [hx], rfl⟩), ← sumK_eq hn b fun x hx => (ksOf_mem _ _).2 (List.mem_map.2 ⟨x, by simp [hx], rfl⟩),
    ← sumK_eq hn c fun x hx => (ksOf_mem _ _).2 (List.mem_map.2 ⟨x, by simp [hx], rfl⟩), sumK_add h]
theorem sumN_bounds : ∀ (l : List Item), (∀ x ∈ l, 0 ≤ x.2 ∧ x.2 ≤ 1099511627776) → 0 ≤ sumN l ∧ sumN l ≤ l.length * 1099511627776
  | [], _ => by simp [sumN]
  | x :: l, h => by
    have := sumN_bounds l fun y hy => h y (by simp [hy])
    have := h x (by simp)
    simp only [sumN, List.length_cons]
    omega
theorem M.bounds {l : List Item} (h : M l) : 0 ≤ sumN l ∧ sumN l ≤ 17592186044416 := by
  have := sumN_bounds l fun x hx => by have := h.ok x hx; omega
  have := h.len
  omega

/-! what the laws say, in plain words -/
theorem both_of {f : Int → Int → Int} {a b : List Item} (ha : M a) (hb : M b) : both f a b = eachL f a b := by
  unfold both
  rw [(may_iff a).2 ha, (may_iff b).2 hb]
  rfl
theorem parts_plus {a b : List Item} (ha : M a) (hb : M b) : plusOf (both meetF a b) (both restF a b) = (a, 0) := by
  rw [both_of ha hb, both_of ha hb]
  refine plus_ok (meet_M ha hb) (rest_M ha hb) ha fun k => ?_
  rw [meet_tot ha hb, rest_tot ha hb]
  have := ha.nonneg k
  omega
theorem parts_minus {a b : List Item} (ha : M a) (hb : M b) (h : (plusOf a b).2 = 0) :
    minusOf (plusOf a b).1 b = (a, 0) ∧ covers (plusOf a b).1 a = true ∧ covers (plusOf a b).1 b = true ∧ totSum (plusOf a b).1 = wrap64 (totSum a + totSum b) := by
  obtain ⟨hp, ht⟩ := plus_cases ha hb h
  generalize (plusOf a b).1 = p at *
  have c1 : covers p a = true := (covers_iff hp ha).2 fun k => by rw [ht]; have := hb.nonneg k; omega
  have c2 : covers p b = true := (covers_iff hp hb).2 fun k => by rw [ht]; have := ha.nonneg k; omega
  refine ⟨?_, c1, c2, ?_⟩
  · unfold minusOf
    rw [(may_iff p).2 hp, (may_iff b).2 hb, c2, both_of hp hb]
    simp only [Bool.and_self, if_true]
    have : eachL restF p b = a := (rest_M hp hb).ext ha fun k => by
      rw [rest_tot hp hb, ht]
      have := ha.nonneg k
      omega
    rw [this]
  · rw [hp.sum, ha.sum, hb.sum, sumN_add ht]
    have := ha.bounds
    have := hb.bounds
    rw [wrap_small (by omega) (by omega)]
theorem order_refl {a : List Item} (ha : M a) : covers a a = true := (covers_iff ha ha).2 fun _ => Int.le_refl _
theorem order_trans {a b c : List Item} (ha : M a) (hb : M b) (hc : M c) (h1 : covers a b = true) (h2 : covers b c = true) : covers a c = true :=
  (covers_iff ha hc).2 fun k => Int.le_trans ((covers_iff hb hc).1 h2 k) ((covers_iff ha hb).1 h1 k)
theorem order_anti {a b : List Item} (ha : M a) (hb : M b) (h1 : covers a b = true) (h2 : covers b a = true) : a = b :=
  ha.ext hb fun k => Int.le_antisymm ((covers_iff hb ha).1 h2 k) ((covers_iff ha hb).1 h1 k)
theorem order_meet {a b : List Item} (ha : M a) (hb : M b) : covers a (both meetF a b) = true ∧ covers b (both meetF a b) = true := by
  rw [both_of ha hb]
  refine ⟨(covers_iff ha (meet_M ha hb)).2 fun k => ?_, (covers_iff hb (meet_M ha hb)).2 fun k => ?_⟩ <;> rw [meet_tot ha hb] <;> omega
end It
end Go.Proofs.YtdbkkldgobkjcaaGreat

namespace Go.Proofs.YtdbkkldgobkjcaaGreat
open Go.RowKit Go.Maps
namespace Pc
open It Mv

/-- a parcel: its order, its three lists, the map of regions it was shipped from, that map's block -/
structure Row where
  od : Int
  wa : List It.Item
  sh : List It.Item
  ba : List It.Item
  fr : List (Int × Value)
  fb : Nat
/-- what may stand in a table of parcels -/
structure OkR (d : Row) : Prop where
  od : 1 ≤ d.od ∧ d.od ≤ 1099511627776
  wa : M d.wa
  some : d.wa ≠ []
  sh : M d.sh
  ba : M d.ba
  cs : covers d.wa d.sh = true
  cb : covers d.sh d.ba = true
  fr : ∀ p ∈ d.fr, 0 ≤ p.1 ∧ p.1 ≤ 7 ∧ p.2 = .bool true

def findR (ds : List Row) (k : Int) : Option Row := ds.find? fun d => decide (d.od = k)
theorem findR_cons (d : Row) (ds : List Row) (k : Int) : findR (d :: ds) k = if d.od = k then some d else findR ds k := by
  unfold findR
  rw [List.find?_cons]
  by_cases h : d.od = k <;> simp [h]
theorem findR_mem {ds : List Row} {k : Int} {d : Row} (h : findR ds k = some d) : d ∈ ds ∧ d.od = k := by
  unfold findR at h
  exact ⟨List.mem_of_find?_eq_some h, by simpa using List.find?_some h⟩
def insR (d : Row) : List Row → List Row
  | [] => [d]
  | c :: r => if d.od < c.od then d :: c :: r else c :: insR d r
def delR (ds : List Row) (k : Int) : List Row := ds.filter fun d => !decide (d.od = k)
def putR (ds : List Row) (d : Row) : List Row := insR d (delR ds d.od)
theorem insR_perm (d : Row) : ∀ ds : List Row, (insR d ds).Perm (d :: ds)
  | [] => List.Perm.refl _
  | c :: r => by
    unfold insR
    split
    · exact List.Perm.refl _
    · exact ((insR_perm d r).cons c).trans (List.Perm.swap d c r)
theorem delR_mem {ds : List Row} {k : Int} {x : Row} (h : x ∈ delR ds k) : x ∈ ds ∧ x.od ≠ k := by
  have := List.mem_filter.1 h
  exact ⟨this.1, by simpa using this.2⟩
theorem putR_mem {d x : Row} {ds : List Row} (h : x ∈ putR ds d) : x = d ∨ (x ∈ ds ∧ x.od ≠ d.od) := by
  have h1 := (insR_perm d (delR ds d.od)).mem_iff.1 h
  rcases List.mem_cons.1 h1 with h | h
  · exact .inl h
  · exact .inr (delR_mem h)
theorem putR_self (d : Row) (ds : List Row) : d ∈ putR ds d := (insR_perm d (delR ds d.od)).mem_iff.2 (by simp)
theorem findR_ins_same {d : Row} : ∀ {ds : List Row}, findR ds d.od = none → findR (insR d ds) d.od = some d
  | [], _ => by rw [insR, findR_cons, if_pos rfl]
  | c :: r, h => by
    rw [findR_cons] at h
    by_cases e : c.od = d.od
    · rw [if_pos e] at h; cases h
    · rw [if_neg e] at h
      unfold insR
      split
      · rw [findR_cons, if_pos rfl]
      · rw [findR_cons, if_neg e]
        exact findR_ins_same h
theorem findR_ins_other {d : Row} {k : Int} (hk : d.od ≠ k) : ∀ {ds : List Row}, findR (insR d ds) k = findR ds k
  | [] => by rw [insR, findR_cons, if_neg hk]
  | c :: r => by
    unfold insR
    split
    · rw [findR_cons, if_neg hk]
    · rw [findR_cons, findR_cons, findR_ins_other hk]
theorem findR_del_same (k : Int) : ∀ (ds : List Row), findR (delR ds k) k = none
  | [] => rfl
  | c :: r => by
    unfold delR
    rw [List.filter_cons]
    split
    · rename_i h
      rw [findR_cons, if_neg (by simpa using h)]
      exact findR_del_same k r
    · exact findR_del_same k r
theorem findR_del_other {j k : Int} (hne : k ≠ j) : ∀ (ds : List Row), findR (delR ds j) k = findR ds k
  | [] => rfl
  | c :: r => by
    unfold delR
    rw [List.filter_cons]
    split
    · rw [findR_cons, findR_cons]
      rw [show findR (r.filter _) k = findR r k from findR_del_other hne r]
    · rename_i h
      rw [findR_cons, if_neg (by simp at h; omega)]
      exact findR_del_other hne r
theorem findR_put (ds : List Row) (d : Row) (k : Int) : findR (putR ds d) k = if d.od = k then some d else findR ds k := by
  unfold putR
  by_cases e : d.od = k
  · rw [if_pos e, ← e]
    exact findR_ins_same (findR_del_same _ _)
  · rw [if_neg e, findR_ins_other e, findR_del_other (fun h => e h.symm)]

/-- the blocks of the maps are different ones -/
def Apart (ds : List Row) : Prop := ds.Pairwise fun c d => c.fb ≠ d.fb
theorem Apart.mem {ds : List Row} (h : Apart ds) : ∀ {c d : Row}, c ∈ ds → d ∈ ds → c ≠ d → c.fb ≠ d.fb := by
  unfold Apart at h
  induction ds with
  | nil => intro c d hc; cases hc
  | cons x r ih =>
    intro c d hc hd hne
    rw [List.pairwise_cons] at h
    rcases List.mem_cons.1 hc with e1 | h1
    · rcases List.mem_cons.1 hd with e2 | h2
      · exact (hne (e1.trans e2.symm)).elim
      · rw [e1]; exact h.1 d h2
    · rcases List.mem_cons.1 hd with e2 | h2
      · rw [e2]; exact fun e => h.1 c h1 e.symm
      · exact ih h.2 h1 h2 hne
theorem Apart.put {ds : List Row} (h : Apart ds) {d : Row} (hd : ∀ c ∈ ds, c.od ≠ d.od → c.fb ≠ d.fb) : Apart (putR ds d) := by
  unfold Apart putR at *
  refine (insR_perm d (delR ds d.od)).symm.pairwise (List.pairwise_cons.2 ⟨fun c hc => ?_, List.Pairwise.sublist List.filter_sublist h⟩) (fun h e => h e.symm)
  have := delR_mem hc
  exact fun e => hd c this.1 this.2 e.symm

def openOf (ds : List Row) (od : Int) (wa : List It.Item) (fb : Nat) : List Row × Int :=
  if od < 1 ∨ 1099511627776 < od then (ds, 1)
  else if may wa = false ∨ wa = [] then (ds, 60)
  else if (findR ds od).isSome then (ds, 5)
  else (putR ds ⟨od, wa, [], [], [], fb⟩, 0)
def rowCode (ds : List Row) (od : Int) (l : List It.Item) : Int := if (findR ds od).isSome then (if may l then 0 else 60) else 4
/-- two lists together, if another one covers them -/
def withinOf (all a b : List It.Item) : List It.Item × Int := if (plusOf a b).2 = 0 ∧ covers all (plusOf a b).1 = true then ((plusOf a b).1, 0) else ([], 50)
def isIn (d : Row) (r : Int) : Bool := (mGet d.fr r).isSome
def shipOf (ds : List Row) (od r : Int) (l : List It.Item) : List Row × Int :=
  if r < 0 ∨ 8 ≤ r then (ds, 1)
  else match findR ds od with
  | none => (ds, 4)
  | some d =>
    if may l = false then (ds, 60)
    else if isIn d r then (ds, 5)
    else if (withinOf d.wa d.sh l).2 = 0 then (putR ds { d with sh := (withinOf d.wa d.sh l).1, fr := mPut intK d.fr r (.bool true) }, 0)
    else (ds, (withinOf d.wa d.sh l).2)
def backOf (ds : List Row) (od : Int) (l : List It.Item) : List Row × Int := match findR ds od with
  | none => (ds, 4)
  | some d =>
    if may l = false then (ds, 60)
    else if (withinOf d.sh d.ba l).2 = 0 then (putR ds { d with ba := (withinOf d.sh d.ba l).1 }, 0)
    else (ds, (withinOf d.sh d.ba l).2)
def undoOf (ds : List Row) (od : Int) (l : List It.Item) : List Row × Int := match findR ds od with
  | none => (ds, 4)
  | some d =>
    if may l = false then (ds, 60)
    else if (minusOf d.ba l).2 = 0 then (putR ds { d with ba := (minusOf d.ba l).1 }, 0)
    else (ds, (minusOf d.ba l).2)

theorem covers_nil {a : List It.Item} (ha : M a) : covers a [] = true := (covers_iff ha ((may_iff []).1 (by decide +kernel))).2 fun k => by simpa [tot] using ha.nonneg k
theorem within_ok {all a b : List It.Item} (ha : M a) (hb : M b) (h : (withinOf all a b).2 = 0) :
    M (withinOf all a b).1 ∧ covers all (withinOf all a b).1 = true ∧ (withinOf all a b).1 = (plusOf a b).1 ∧ (∀ k, tot k (withinOf all a b).1 = tot k a + tot k b) := by
  unfold withinOf at h ⊢
  split
  · rename_i hc
    obtain ⟨h1, h2⟩ := plus_cases ha hb hc.1
    exact ⟨h1, hc.2, rfl, h2⟩
  · rename_i hc
    rw [if_neg hc] at h
    simp at h
theorem ofSum_within {all a b : List It.Item} (ha : M a) (hb : M b) (h : (withinOf all a b).2 = 0) (s : ByteArray) :
    ofSum s (withinOf all a b).1 = ofSum s a + ofSum s b := by
  obtain ⟨h1, -, -, h2⟩ := within_ok ha hb h
  rw [h1.of, ha.of, hb.of]
  exact h2 _
theorem ofSum_covers {a b : List It.Item} (ha : M a) (hb : M b) (h : covers a b = true) (s : ByteArray) : ofSum s b ≤ ofSum s a := by
  rw [ha.of, hb.of]
  exact (covers_iff ha hb).1 h _
theorem minus_ok {a b : List It.Item} (ha : M a) (hb : M b) (h : (minusOf a b).2 = 0) : M (minusOf a b).1 ∧ covers a (minusOf a b).1 = true := by
  have e1 : minusOf a b = if covers a b then (both restF a b, 0) else ([], 51) := by unfold minusOf; rw [(may_iff a).2 ha, (may_iff b).2 hb]; rfl
  rw [e1] at h ⊢
  cases hc : covers a b with
  | false => rw [hc] at h; simp at h
  | true =>
    simp only [if_true]
    rw [both_of ha hb]
    refine ⟨rest_M ha hb, (covers_iff ha (rest_M ha hb)).2 fun k => ?_⟩
    rw [rest_tot ha hb]
    have := ha.nonneg k
    have := hb.nonneg k
    omega
end Pc
end Go.Proofs.YtdbkkldgobkjcaaGreat
