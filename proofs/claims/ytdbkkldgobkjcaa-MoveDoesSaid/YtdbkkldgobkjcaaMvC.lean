/-
  moves: Come, Forget.
-/
import Derived.Test.YtdbkkldgobkjcaaMvB
namespace Go.Proofs.Ytdbkkldgobkjcaa
open Go.RowKit Go.Maps
namespace Mv
open It

theorem hmx : Try.prog.follows .mixedOrders = true := by kernel_rfl
def comeOf (ds : List Way) (k : Int) : List Way × List It.Item × Int := match findW ds k with
  | none => (ds, [], 4)
  | some d => if d.came then (ds, [], 5) else (putW ds { d with came := true }, d.l, 0)

theorem insW_mem {d x : Way} {ds : List Way} (h : x ∈ insW d ds) : x = d ∨ x ∈ ds := by
  induction ds with
  | nil => left; simpa [insW] using h
  | cons c r ih =>
    unfold insW at h
    split at h
    · rcases List.mem_cons.1 h with h | h
      · exact .inl h
      · exact .inr h
    · rcases List.mem_cons.1 h with h | h
      · exact .inr (by rw [h]; simp)
      · rcases ih h with h | h
        · exact .inl h
        · exact .inr (List.mem_cons_of_mem _ h)
theorem insW_length (d : Way) (ds : List Way) : (insW d ds).length = ds.length + 1 := by
  induction ds with
  | nil => rfl
  | cons c r ih => unfold insW; split <;> simp [ih]
theorem putW_mem {d x : Way} {ds : List Way} (h : x ∈ putW ds d) : x = d ∨ x ∈ ds := by
  rcases insW_mem h with h | h
  · exact .inl h
  · exact .inr (List.mem_filter.1 h).1
theorem delW_length (ds : List Way) (k : Int) : (delW ds k).length ≤ ds.length := List.length_filter_le _ _
theorem delW_length_lt {ds : List Way} {k : Int} {d : Way} (h : findW ds k = some d) : (delW ds k).length < ds.length := by
  unfold delW
  obtain ⟨h1, h2⟩ := findW_mem h
  refine Nat.lt_of_le_of_ne (List.length_filter_le _ _) fun e => ?_
  have := List.length_filter_eq_length_iff.1 e d h1
  simp [h2] at this
theorem putW_length_known {ds : List Way} {d c : Way} (h : findW ds d.mv = some c) : (putW ds d).length ≤ ds.length := by
  unfold putW
  rw [insW_length]
  have := delW_length_lt h
  omega
theorem putW_length (ds : List Way) (d : Way) : (putW ds d).length ≤ ds.length + 1 := by
  unfold putW
  rw [insW_length]
  have := delW_length ds d.mv
  omega

theorem WayAt.arrive {w : World} {F : Nat → Prop} {d : Way} {v : Value} (h : WayAt w F (wayV d v) d) : WayAt w F (wayV { d with came := true } v) { d with came := true } := by
  obtain ⟨v', lo, B, e, h1, h2, h3⟩ := h
  have e2 : v = v' := by simpa [wayV] using e
  subst e2
  exact ⟨v, lo, B, rfl, h1, h2, h3⟩

set_option maxRecDepth 100000 in
set_option maxHeartbeats 4000000 in
theorem come_calls (k : Int) (b mb : Nat) (X : Nat → Prop) (ds : List Way) (w : World) (h : MvAt w b mb X ds) (h0 : -9223372036854775808 ≤ k) (h1 : k ≤ 9223372036854775807) :
    Calls Try.prog 14 #[.pointer (some ⟨b, 0, none⟩), .int .i64 k] w fun e w' =>
      (∃ v, e = .returned (.tuple #[v, .int .i64 (comeOf ds k).2.2]) ∧ w'.ownsRow w.heap.size 36 2 v (comeOf ds k).2.1.length (itemCells (comeOf ds k).2.1)) ∧ MvAt w' b mb X (comeOf ds k).1 ∧ w.grownBy w' (some mb) := by
  obtain ⟨m, hm, hR⟩ := h.map
  have g0 : w.cell? ⟨b, 0, none⟩ = some (.map (some mb)) := h.ob.cell (j := 0) rfl
  have hmb := hm.lt
  have hbl := h.ob.lt
  have hkey := Lib.hid (keyI h0 h1)
  have cM := Lib.hid (made_calls b mb _ g0)
  have HM := Lib.hid hm
  cases hf : findW ds k with
  | none =>
    have hC : comeOf ds k = (ds, [], 4) := by unfold comeOf; rw [hf]
    rw [hC]
    have HG := Lib.hid (show (mGet m k).getD (wayV way0 (.slice none 0 0)) = .agg #[.int .i64 0, .int .i64 0, .int .i64 0, .slice none 0 0, .bool false] by rw [hR.none hf]; rfl)
    have HS := Lib.hid (show (mGet m k).isSome = false by rw [hR.none hf]; rfl)
    have H := Lib.hid h
    clear hC hf hR hm h
    go_enter Try.func14, Try.ntmps14
    go_wp2_with (first
      | (go_at_call 39; refine cM.out.mono ?_; rintro e W ⟨rfl, rfl⟩)
      | (at_lookup; refine wpList_look_ok_g rfl (.tmp 15) (.tmp 16) _ rfl 3 _ keyedI Try.underlying79 rfl HM.out (zeroW _) _ _ rfl hkey.out _ _ HG.out HS.out ?_))
    go_ret2
    have hb := (Below.refl w.heap.size w).alloc (Nat.le_refl _) (.cells #[.int .i64 0, .int .i64 0, .int .i64 0, .slice none 0 0, .bool false] 42)
    exact ⟨⟨_, rfl, World.ownsRow_nil _ _ _ _⟩, H.out.same hb, only_of_below hb _⟩
  | some d =>
    obtain ⟨val, hg, hw⟩ := hR.some hf
    obtain ⟨hmem, hmv⟩ := findW_mem hf
    have hok := h.ok d hmem
    obtain ⟨mv, fr, to_, l, came⟩ := d
    dsimp only at hmv
    subst hmv
    have hl16 := may_len hok.l
    have hput := Lib.hid (fun w' val' (hR' : WayAt w' (fun i => i ≠ b ∧ i ≠ mb ∧ ¬ X i) val' ⟨mv, fr, to_, l, true⟩) (hr : Rel w' (fun i => i ≠ b ∧ i ≠ mb ∧ ¬ X i) m ds) => Rel.put (d := ⟨mv, fr, to_, l, true⟩) hR' hr)
    have hlen2 := Lib.hid (putW_length_known (ds := ds) (d := ⟨mv, fr, to_, l, true⟩) hf)
    have hwa := Lib.hid hw
    obtain ⟨v, rfl, hI⟩ := hw.items
    obtain ⟨A, c, rfl, -⟩ := hI.form
    have HG := Lib.hid (show (mGet m mv).getD (wayV way0 (.slice none 0 0)) = .agg #[.int .i64 mv, .int .i64 fr, .int .i64 to_, .slice A l.length c, .bool came] by rw [hg]; rfl)
    have HS := Lib.hid (show (mGet m mv).isSome = true by rw [hg]; rfl)
    have H := Lib.hid h
    have HR := Lib.hid hR
    dsimp only at hI hl16
    cases came with
    | true =>
      have hC : comeOf ds mv = (ds, [], 5) := by unfold comeOf; rw [hf]; rfl
      rw [hC]
      clear hC hf hR hm h hg hwa hw
      go_enter Try.func14, Try.ntmps14
      go_wp2_with (first
        | (go_at_call 39; refine cM.out.mono ?_; rintro e W ⟨rfl, rfl⟩)
        | (at_lookup; refine wpList_look_ok_g rfl (.tmp 15) (.tmp 16) _ rfl 3 _ keyedI Try.underlying79 rfl HM.out (zeroW _) _ _ rfl hkey.out _ _ HG.out HS.out ?_))
      go_ret2
      have hb := (Below.refl w.heap.size w).alloc (Nat.le_refl _) (.cells #[.int .i64 mv, .int .i64 fr, .int .i64 to_, .slice A l.length c, .bool true] 42)
      exact ⟨⟨_, rfl, World.ownsRow_nil _ _ _ _⟩, H.out.same hb, only_of_below hb _⟩
    | false =>
      have hC : comeOf ds mv = (putW ds ⟨mv, fr, to_, l, true⟩, l, 0) := by unfold comeOf; rw [hf]; rfl
      rw [hC]
      clear hC hf hR hm h hg hw
      go_enter Try.func14, Try.ntmps14
      go_wp2_with (first
        | (go_at_call 39; refine cM.out.mono ?_; rintro e W ⟨rfl, rfl⟩)
        | (at_lookup; refine wpList_look_ok_g rfl (.tmp 15) (.tmp 16) _ rfl 3 _ keyedI Try.underlying79 rfl HM.out (zeroW _) _ _ rfl hkey.out _ _ HG.out HS.out ?_))
      have hb0 := (Below.refl w.heap.size w).alloc (Nat.le_refl _) (.cells #[.int .i64 mv, .int .i64 fr, .int .i64 to_, .slice A l.length c, .bool true] 42)
      have hO := Ob.new w 42 #[.int .i64 mv, .int .i64 fr, .int .i64 to_, .slice A l.length c, .bool true]
      have hgd : (w.alloc (.cells #[.int .i64 mv, .int .i64 fr, .int .i64 to_, .slice A l.length c, .bool true] 42)).grownBy (w.alloc (.cells #[.int .i64 mv, .int .i64 fr, .int .i64 to_, .slice A l.length c, .bool true] 42)).drew none := only_of_below (Below.refl _ _).drew none
      have hgw : w.grownBy (w.alloc (.cells #[.int .i64 mv, .int .i64 fr, .int .i64 to_, .slice A l.length c, .bool true] 42)).drew none := only_of_below hb0.drew none
      generalize hW0 : (w.alloc (.cells #[.int .i64 mv, .int .i64 fr, .int .i64 to_, .slice A l.length c, .bool true] 42)) = W0 at *
      have HW0 := Lib.hid hW0
      clear hW0
      have hOd := hO.kept hgd (by simp)
      have gbd : W0.drew.cell? ⟨b, 0, none⟩ = some (.map (some mb)) := (hgw.cell g0 (by simp))
      have hMd := HM.out.kept hgw (by simp)
      have hm256 : m.length ≤ 256 := by rw [HR.out.length]; exact H.out.len
      refine Pu.regionM [(0, false), (1, false), (2, false), (3, false), (4, false), (5, false), (6, true)] (fun W => Ob W w.heap.size 42 #[.int .i64 mv, .int .i64 fr, .int .i64 to_, .slice A l.length c, .bool true] ∧ W.cell? ⟨b, 0, none⟩ = some (.map (some mb))) hmx (by kernel_rfl) (by kernel_rfl) (by kernel_rfl) ⟨hOd, gbd⟩ rfl ?_
      simp only [Pu.named, List.filterMap_cons, List.filterMap_nil, List.getElem?_toArray, List.getElem?_cons_succ, List.getElem?_cons_zero, Option.map_some]
      iterate 6 (apply Pu.WalkM.on (by rfl)
                 · rintro W ⟨hOW, gW⟩
                   obtain ⟨q0, q1, q2, q3, q4⟩ := hOW.five
                   go_wp2_with fail
                   refine ⟨rfl, ?_, rfl⟩
                   try simp only [Act.put, List.setIfInBounds_toArray, List.set_cons_succ, List.set_cons_zero]
                   rfl
                 simp only [Act.put, List.setIfInBounds_toArray, List.set_cons_succ, List.set_cons_zero])
      refine Pu.WalkM.make (by rfl) ?_
      rintro W rfl
      refine wpList_put_g rfl (.tmp 30) (.tmp 31) (.tmp 32) _ rfl 3 _ keyedI Try.underlying79 rfl hMd (by unfold maxLen; omega) _ (.agg #[.int .i64 mv, .int .i64 fr, .int .i64 to_, .slice A l.length c, .bool true]) _ rfl rfl hkey.out ?_
      intro W2 hM2 hg2
      have hne : some w.heap.size ≠ some mb := fun e => by have := Option.some.inj e; omega
      have hO2 := hOd.kept hg2 hne
      have gb2 : W2.cell? ⟨b, 0, none⟩ = some (.map (some mb)) := hg2.cell gbd (fun e => H.out.ne (Option.some.inj e))
      refine ⟨rfl, undef, _, (fun W => W = W2), rfl, rfl, (fun W h => by rw [h]; exact ⟨hO2, gb2⟩), (.inr (fun _ h => h)), Pu.WalkM.nil ?_⟩
      rintro W rfl
      simp only [Act.put]
      have hgwm := (hgw.but (some mb)).trans hg2
      have hR2 := hput.out W _ (hwa.out.arrive.kept hgwm (fun g e => .inl (fun k => k.2.1 (Option.some.inj e).symm)) (fun _ _ h => h)) (HR.out.kept hgwm (fun g e => .inl (fun k => k.2.1 (Option.some.inj e).symm)) (fun _ _ h => h))
      have hMv : MvAt W b mb X (putW ds ⟨mv, fr, to_, l, true⟩) := by
        refine ⟨H.out.ob.kept hgwm (fun e => H.out.ne (Option.some.inj e)), ⟨_, hM2, hR2⟩, H.out.ne, H.out.nx, fun i hi => Nat.lt_of_lt_of_le (H.out.xl i hi) hgwm.size, fun x hx => ?_, Nat.le_trans hlen2.out H.out.len⟩
        rcases putW_mem hx with rfl | hx
        · exact ⟨hok.mv, hok.fr, hok.to_, hok.ne, hok.l, hok.some⟩
        · exact H.out.ok x hx
      obtain ⟨v', lo, B, e, hIv, hBv, hFv⟩ := hwa.out
      have e2 : v' = .slice A l.length c := by simpa [wayV] using e.symm
      subst e2
      have hI2 : ItemsAt W 0 W.heap.size (.slice A l.length c) l := by
        obtain ⟨v2, lo2, B2, e3, h5, h6, h7⟩ := hwa.out.kept hgwm (F' := fun _ => True) (fun g e => .inl (fun k => k.2.1 (Option.some.inj e).symm)) (fun _ _ _ => trivial)
        have e4 : v2 = .slice A l.length c := by simpa [wayV] using e3.symm
        subst e4
        exact h5.wide (Nat.zero_le _) h6
      obtain ⟨q0, q1, q2, q3, q4⟩ := hO2.five
      have cC := Lib.hid (clonei_calls l _ W hI2 (by omega))
      have HMv := Lib.hid hMv
      clear hI2 hMv hR2 hIv hM2
      go_wp2_with fail
      refine cC.out.mono ?_
      rintro e W3 ⟨⟨cv, rfl, hcv⟩, hb3⟩
      obtain ⟨Ac, cc, rfl, -⟩ := (ItemsAt.of_own hcv).form
      go_wp2
      go_ret2
      exact ⟨⟨_, rfl, ownsRow_wide hcv hgwm.size⟩, HMv.out.same hb3, hgwm.trans (only_of_below hb3 _)⟩
end Mv
end Go.Proofs.Ytdbkkldgobkjcaa
