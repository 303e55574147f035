/-
  saga: took.
  saga: copied.
  A region that draws its order, some of whose operations make or write memory in one of two orders: a plan that forks.
  saga: Begin.
-/
import Derived.Test.YthfpfomifebpbaaGreatNz5
import Derived.Test.YthfpfomifebpbaaGreatNz4
import Derived.Deep.RegionHeld3
import Derived.Test.YthfpfomifebpbaaGreatNz3
import Derived.Laws.OwnMore

set_option linter.unusedVariables false
set_option linter.unusedSimpArgs false
namespace Go.Proofs.YthfpfomifebpbaaGreat
open Go.RowKit Go.Maps
namespace Sa
open It
variable {mlo : Nat}

theorem fits_missing (want : List It.Item) (L : List (List It.Item)) (h : Fits want) : Fits (missing want L) := by
  unfold missing
  split
  · exact fits_left want L h
  · intro x hx
    simp at hx

theorem next_mem {U : World} {b : Nat} {t : Saga} {vw vg vp vr : Value} {rest : List It.Item} (ho : Ob U b 26 (sagaC t vw vg vp)) (hf : Off mlo U b t vw vg vp) (a' nx : Int) (hr : ItemsAt U (b + 1) U.heap.size vr rest) :
    ((U.setCell ⟨b, 6, none⟩ (.int .i64 a')).alloc (.cells #[.int .i64 nx] 3)).cell? ⟨b, 8, none⟩ = some vp ∧
    ((U.setCell ⟨b, 6, none⟩ (.int .i64 a')).alloc (.cells #[.int .i64 nx] 3)).frozen? ⟨b, 8, none⟩ = false ∧
    ∃ U3, ((U.setCell ⟨b, 6, none⟩ (.int .i64 a')).alloc (.cells #[.int .i64 nx] 3)).setCell ⟨b, 8, none⟩ (.slice (some ⟨U.heap.size, 0, none⟩) 1 1) = U3 ∧
      Ob U3 b 26 (sagaC { t with asked := a', pending := [nx] } vw vg (.slice (some ⟨U.heap.size, 0, none⟩) 1 1)) ∧ Off mlo U3 b { t with asked := a', pending := [nx] } vw vg (.slice (some ⟨U.heap.size, 0, none⟩) 1 1) ∧
      ItemsAt U3 (b + 1) U3.heap.size vr rest ∧ Below b U U3 ∧ U3.heap.size = U.heap.size + 1 := by
  have hlt := ho.lt
  have hz := set_size U b 6 (.int .i64 a')
  have ho1 : Ob (U.setCell ⟨b, 6, none⟩ (.int .i64 a')) b 26 (sagaC { t with asked := a' } vw vg vp) := ho.set 6 (.int .i64 a')
  have hf1 := hf.set 6 (.int .i64 a')
  have hr1 := Kept.sl (Fr := fun i => i < U.heap.size ∧ i ≠ b) (Kept.of_grown (grownBy_set U b 6 (.int .i64 a')) fun i hi => ⟨hi.1, fun e => hi.2 (by cases e; rfl)⟩) hr fun i h1 h2 => ⟨h2, by omega⟩
  have hb1 := below_set U b 6 (.int .i64 a')
  generalize U.setCell ⟨b, 6, none⟩ (.int .i64 a') = U1 at *
  rw [← hz] at hr1 ⊢
  have hlt1 := ho1.lt
  have hal := (Below.refl U1.heap.size U1).alloc (Nat.le_refl _) (.cells #[.int .i64 nx] 3)
  have ho2 := ho1.alloc (.cells #[.int .i64 nx] 3)
  have hf2 := hf1.later hal
  have hr2 := Sl.mono hr1 hal hal.size
  have hs2 : Sl (U1.alloc (.cells #[.int .i64 nx] 3)) U1.heap.size (U1.heap.size + 1) 1 (.slice (some ⟨U1.heap.size, 0, none⟩) 1 1) 1 [.int .i64 nx] := Sl.new U1 #[.int .i64 nx] 3 (size := 1) (n := 1) rfl (by unfold maxLen; omega)
  have hb2 := hb1.trans (hal.mono (by omega))
  have hz2 : (U1.alloc (.cells #[.int .i64 nx] 3)).heap.size = U1.heap.size + 1 := World.size_alloc _ _
  generalize U1.alloc (.cells #[.int .i64 nx] 3) = U2 at *
  have hlt2 := ho2.lt
  refine ⟨ho2.cell rfl, ho2.frozen 8, _, rfl, ho2.set 8 (.slice (some ⟨U1.heap.size, 0, none⟩) 1 1), ?_, ?_, hb2.trans (below_set U2 b 8 _), ?_⟩
  · have hf3 := hf2.set 8 (.slice (some ⟨U1.heap.size, 0, none⟩) 1 1)
    refine ⟨hf3.mb, hf3.want, hf3.got, ?_⟩
    have hn : NOff mlo U2 b (.slice (some ⟨U1.heap.size, 0, none⟩) 1 1) [nx] := ⟨U1.heap.size, U1.heap.size + 1, by have := hf.mb; omega, .inr hlt1, by omega, hs2⟩
    exact SlOff.keep hn (Kept.of_grown (grownBy_set U2 b 8 _) fun i hi => ⟨hi.1, fun e => hi.2 (by cases e; rfl)⟩)
  · rw [set_size]
    have := Kept.sl (Fr := fun i => i < U2.heap.size ∧ i ≠ b) (Kept.of_grown (grownBy_set U2 b 8 (.slice (some ⟨U1.heap.size, 0, none⟩) 1 1)) fun i hi => ⟨hi.1, fun e => hi.2 (by cases e; rfl)⟩) hr2 fun i h1 h2 => ⟨h2, by omega⟩
    exact this
  · rw [set_size, hz2]

set_option maxRecDepth 100000 in
set_option maxHeartbeats 4000000 in
theorem took_calls (s : Saga) (vw vg vp : Value) (P G L b base : Nat) (ev : Ev) (ve : Value) (w : World) (hm : Mine mlo w P G L b s vw vg vp) (hbase : base ≤ P) (hr : ∀ x ∈ s.pending, 0 ≤ x ∧ x < s.got.length) (hv : ItemsAt w 0 base ve ev.items)
    (hh : Head s) (hF : Fit s) (hFe : Fits ev.items) :
    Calls Tryz.prog 68 #[.pointer (some ⟨b, 0, none⟩), .agg (evC ev ve)] w fun e w' => Ret mlo w' b e (tookS s ev) ∧ Below base w w' := by
  have hmx : Tryz.prog.follows .mixedOrders = true := by kernel_rfl
  have HV := Lib.hid hv
  obtain ⟨A, c, rfl, -⟩ := hv.form
  unfold evC
  have hlt := hm.ob.lt
  have h1 := hm.PG
  have h2 := hm.GL
  have h3 := hm.Lb
  have hal := (Below.refl w.heap.size w).alloc (Nat.le_refl _) (.cells #[.int .i64 ev.kind, .int .i64 ev.region, .slice A ev.items.length c] 28)
  have hm0 := hm.later hal
  have hoE := Ob.new w 28 #[.int .i64 ev.kind, .int .i64 ev.region, .slice A ev.items.length c]
  have HBA := Lib.hid (hal.mono (show base ≤ w.heap.size by omega))
  have hWs : (w.alloc (.cells #[.int .i64 ev.kind, .int .i64 ev.region, .slice A ev.items.length c] 28)).heap.size = w.heap.size + 1 := World.size_alloc _ _
  have cM := Lib.hid (sagamissing_calls s vw vg vp _ hm0.off.parts hF)
  have HO := Lib.hid hm0.ob
  have HFm := Lib.hid (fits_missing s.want s.got hF.want)
  have HH := Lib.hid hh
  unfold tookS
  clear hv hm hF hh
  generalize missing s.want s.got = left at cM HFm ⊢
  by_cases hy : s.state = 1 ∧ Life.idxOf ev.region s.pending ≠ -1
  · rw [if_pos hy]
    obtain ⟨hst, hix⟩ := hy
    rcases idx_cases ev.region s.pending with h | ⟨i, hil, hi, hgi⟩
    · exact absurd h hix
    have hrr := hr ev.region (by rw [← hgi, getD_get hil]; exact List.getElem_mem hil)
    unfold takeOff
    rw [hi, Int.toNat_natCast]
    obtain ⟨r, hr'⟩ : ∃ r : Nat, ev.region = r := ⟨ev.region.toNat, by omega⟩
    have cA := Lib.hid (fun W (h : Below (w.heap.size + 1) _ W) => mine_yes i 1 ev.region (hm0.later (by rw [hWs]; exact h)) hst hi hil)
    have hnil : ev.region.toNat = r := by omega
    rw [hnil]
    have hrl : r < s.got.length := by omega
    rw [hr'] at cA hoE HBA cM HO hWs ⊢
    clear hr hgi hi hix hrr hm0 hal hst
    have HR' := Lib.hid hr'
    clear hr' hnil
    generalize hW : w.alloc _ = W0 at *
    obtain ⟨e0, e1, e2⟩ := ob_three hoE
    go_enter Tryz.func68, Tryz.ntmps68
    go_wp2_with (refine wpList_load_obg (by rfl) _ _ rfl rfl _ HO.out Tryz.underlying26 rfl (by kernel_rfl) ?_)
    refine cM.out.mono ?_
    rintro e W1 ⟨⟨vl, rfl, hvl⟩, hb1⟩
    have hoE1 := hoE.same hb1
    obtain ⟨A1, c1, rfl, -⟩ := (ItemsAt.of_own hvl).form
    have HB1 := Lib.hid (HBA.out.trans (hb1.mono (by omega)))
    have hs1 := hb1.size
    have cA1 := Lib.hid (cA.out W1 (hWs ▸ hb1))
    clear cA cM hb1 e0 e1 e2 HO hoE hW
    obtain ⟨e0, e1, e2⟩ := ob_three hoE1
    go_wp2_with fail
    refine cA1.out.mono ?_
    rintro e W2 ⟨rfl, ⟨vp', hm2⟩, hk2⟩
    have hoE2 := hk2.ob hoE1 ⟨by omega, .inr hlt⟩
    have hvl2 := own_kept hvl hk2 fun g hg => ⟨(hvl.lt g hg).2, .inr (by have := (hvl.lt g hg).1; omega)⟩
    have HB2 := Lib.hid (HB1.out.trans (hk2.below (B := base) fun j hj => ⟨by omega, .inl (by omega)⟩))
    have hlow := Lib.hid (fun g hg => (hvl.lt g hg).1)
    have hs2 := hk2.size
    clear cA1 e0 e1 e2 hoE1 hvl hk2
    obtain ⟨e0, e1, e2⟩ := ob_three hoE2
    have hvi2 := (HV.out.mono HB2.out (Nat.le_refl _)).wide (Nat.le_refl _) (show base ≤ W2.heap.size by omega)
    have cC := Lib.hid (covers_calls left ev.items _ _ W2 ((ItemsAt.of_own hvl2).wide (Nat.zero_le _) (Nat.le_refl _)) hvi2 HFm.out hFe)
    clear hvi2
    go_wp2_with fail
    refine cC.out.mono ?_
    rintro e W3 ⟨rfl, hb3⟩
    have hm3 := hm2.later hb3
    have hoE3 := hoE2.same hb3
    have hvl3 := row_later hvl2 hb3
    have HB3 := Lib.hid (HB2.out.trans (hb3.mono (by omega)))
    have hs3 := hb3.size
    have hcov : covers left ev.items = true → ev.items.length ≤ 1000000 := fun h => by
      unfold covers at h
      simp only [Bool.and_eq_true] at h
      have := may_len h.1.2
      omega
    have HCV := Lib.hid hcov
    clear cC e0 e1 e2 hoE2 hm2 hvl2 hb3 hcov
    generalize hcq : covers left ev.items = q at HCV
    have HCQ := Lib.hid hcq
    clear hcq
    cases q with
    | false =>
      go_wp2
      go_ret2
      exact ⟨by rw [HCQ.out]; exact rfl, HB3.out⟩
    | true =>
      have hdr : Below W3.heap.size W3 W3.drew := (Below.refl _ W3).drew
      have hm4 := hm3.later hdr
      have hoE4 := hoE3.same hdr
      have hvl4 := row_later hvl3 hdr
      have HB4 := Lib.hid (HB3.out.trans (hdr.mono (by omega)))
      have hs4 := hdr.size
      obtain ⟨gb, cap, x, hvg, hcap, hcapm, hgG, hgL, hcell, hfz, -⟩ := hm4.place (r := r) hrl
      subst hvg
      have hrz : (0 : Nat) + r = r := Nat.zero_add r
      unfold maxLen at hcapm
      have cK := Lib.hid (fun V (h : Below W3.drew.heap.size W3.drew V) => clonei_calls ev.items (.slice A ev.items.length c) V ((HV.out.mono (HB4.out.trans (h.mono (by omega))) (Nat.le_refl _)).wide (Nat.le_refl _) (by have := h.size; omega)) (HCV.out rfl))
      have hC := Lib.hid (fun V (h : Below W3.drew.heap.size W3.drew V) => show V.cell? ⟨b, 7, none⟩ = some (.slice (some ⟨gb, 0, none⟩) s.got.length cap) ∧ V.cell? ⟨w.heap.size, 1, none⟩ = some (.int .i64 (r : Int)) ∧ V.cell? ⟨w.heap.size, 2, none⟩ = some (.slice A ev.items.length c) from
        ⟨(hm4.ob.same h).cell rfl, (hoE4.same h).cell rfl, (hoE4.same h).cell rfl⟩)
      have HM4 := Lib.hid hm4
      have HE4 := Lib.hid hoE4
      have HL4 := Lib.hid hvl4
      clear hm3 hoE3 hvl3 hdr hm4 hoE4 hvl4 hcell hfz
      go_wp2
      refine Pu.regionM [(0, false), (1, false), (2, false), (3, false), (4, false), (5, false), (6, false), (7, false), (8, true), (9, false), (10, true)] (fun Wq => Below W3.drew.heap.size W3.drew Wq) hmx (by kernel_rfl) (by kernel_rfl) (by kernel_rfl) (Below.refl _ _) rfl ?_
      simp only [Pu.named, List.filterMap_cons, List.filterMap_nil, List.getElem?_toArray, List.getElem?_cons_succ, List.getElem?_cons_zero, Option.map_some]
      iterate 8 (
        apply Pu.WalkM.on (by rfl)
        · intro V1 h1
          obtain ⟨q7, j1, j2⟩ := hC.out V1 h1
          go_wp2_with fail
          refine ⟨rfl, ?_, rfl⟩
          try simp only [Act.put, List.setIfInBounds_toArray, List.set_cons_succ, List.set_cons_zero]
          rfl
        simp only [Act.put, List.setIfInBounds_toArray, List.set_cons_succ, List.set_cons_zero])
      refine Pu.WalkM.make (by rfl) ?_
      rintro W rfl
      go_wp2_with (go_at_call 63; refine (cK.out _ (Below.refl _ _)).mono ?_; rintro e W5 ⟨⟨v5, rfl, hv5⟩, hb5⟩)
      obtain ⟨A5, c5, rfl, -⟩ := (ItemsAt.of_own hv5).form
      refine ⟨rfl, .slice A5 ev.items.length c5, _, (fun V => V = W5), ?_, rfl, (fun V h => by rw [h]; exact hb5), (.inr (fun _ h => h)), ?_⟩
      · simp only [Act.put, List.setIfInBounds_toArray, List.set_cons_succ, List.set_cons_zero]
      simp only [Act.put, List.setIfInBounds_toArray, List.set_cons_succ, List.set_cons_zero]
      iterate 1 (
        apply Pu.WalkM.on (by rfl)
        · intro V1 h1
          skip
          go_wp2_with fail
          refine ⟨rfl, ?_, rfl⟩
          try simp only [Act.put, List.setIfInBounds_toArray, List.set_cons_succ, List.set_cons_zero]
          rfl
        simp only [Act.put, List.setIfInBounds_toArray, List.set_cons_succ, List.set_cons_zero])
      have hm5 := HM4.out.later hb5
      have hoE5 := HE4.out.same hb5
      have hvl5 := row_later HL4.out hb5
      have HB5 := HB4.out.trans (hb5.mono (by omega))
      have hs5 := hb5.size
      obtain ⟨gb', cap', x', hvg', -, -, hgG', hgL', hcell, hfz, -⟩ := hm5.place (r := r) hrl
      cases hvg'
      obtain ⟨hob6, hoff6⟩ := hm5.put (r := r) (x := .slice A5 ev.items.length c5) (l := ev.items) hrl ((ItemsAt.of_own hv5).wide (by omega) (Nat.le_refl _))
      have hgr6 := grownBy_set W5 gb r (.slice A5 ev.items.length c5)
      have hoE6 := hoE5.kept hgr6 (by simp; omega)
      have hvl6 := hvl5.kept hgr6 (by
        cases hq : Value.ownBlock (.slice A1 left.length c1) with
        | none => exact .inl rfl
        | some g => exact .inr fun e => by have := hlow.out g hq; cases e; omega)
      have HB6 := HB5.grown hgr6 (by omega) (fun g e => by cases e; omega)
      have hsz6 := set_size W5 gb r (.slice A5 ev.items.length c5)
      clear hm5 hoE5 hvl5 HB5 hv5 hb5 cK hC hgr6
      refine Pu.WalkM.make (by rfl) ?_
      rintro W rfl
      go_wp2_with fail
      refine ⟨rfl, undef, (fun _ => True), (fun V => V = _), rfl, rfl, (fun _ _ => trivial), (.inl (by kernel_rfl)), Pu.WalkM.nil ?_⟩
      rintro V rfl
      simp only [Act.put]
      generalize W.setCell ⟨gb, r, none⟩ (.slice A5 ev.items.length c5) = W6 at *
      have hvi6 := (HV.out.mono HB6 (Nat.le_refl _)).wide (Nat.le_refl _) (show base ≤ W6.heap.size by omega)
      have cR := Lib.hid (rest_calls left ev.items _ _ W6 ((ItemsAt.of_own hvl6).wide (Nat.zero_le _) (Nat.le_refl _)) hvi6 HFm.out hFe)
      have HO6 := Lib.hid hob6
      have HF6 := Lib.hid hoff6
      obtain ⟨j0, j1, j2⟩ := ob_three hoE6
      clear hvi6 hob6 hoff6 hvl6 hoE6
      go_wp2_with fail
      refine cR.out.mono ?_
      rintro e W7 ⟨⟨v7, rfl, hv7⟩, hb7⟩
      have hob7 := HO6.out.same hb7
      have hoff7 := HF6.out.later hb7
      have HB7 := Lib.hid (HB6.trans (hb7.mono (by omega)))
      have hs7 := hb7.size
      obtain ⟨A7, c7, rfl, -⟩ := (ItemsAt.of_own hv7).form
      clear cR HO6 HF6 j0 j1 j2 hb7
      generalize hrs : both restF left ev.items = rest at *
      have HRS := Lib.hid hrs
      clear hrs
      obtain ⟨t, ht⟩ : ∃ t : Saga, t = { s with pending := delAt s.pending i, got := s.got.set r ev.items } := ⟨_, rfl⟩
      have HT := Lib.hid ht
      have hgl : t.got.length ≤ 1000000 := by rw [ht]; have := HH.out.got; have := HH.out.r2; simp; omega
      have htr : t.regions = s.regions := by rw [ht]
      have hta : t.asked = s.asked := by rw [ht]
      have htf : t.first = s.first := by rw [ht]
      have hF0 : 0 ≤ t.first ∧ t.first < t.regions ∧ t.regions ≤ 8 ∧ 1 ≤ t.asked ∧ t.asked ≤ t.regions := by
        have := HH.out.f1
        have := HH.out.f2
        have := HH.out.r2
        have := HH.out.a1
        have := HH.out.a2
        omega
      have hvl : ((visit t.first t.regions).length : Int) = t.regions := by rw [htf, htr]; exact HH.out.visit
      rw [← ht] at hob7 hoff7
      clear ht htr hta htf HV HFm HR'
      obtain ⟨-, k1, k2, -, -, -, k6, -, -, k9⟩ := ob_ten hob7
      cases hca : t.cancelled with
      | true =>
        rw [hca] at k9
        have HCA := Lib.hid hca
        clear hca hvl hF0
        have cU := Lib.hid (undo_calls t _ _ _ b W7 hob7 hoff7 hgl)
        clear hob7 hoff7
        go_wp2_with fail
        refine cU.out.mono ?_
        rintro e W8 ⟨⟨vl8, rfl, hv8⟩, ⟨uw, ug, up, ho8, hf8⟩, hb8⟩
        obtain ⟨A8, c8, rfl, -⟩ := hv8.form
        go_wp2
        go_ret2
        exact ⟨by rw [HCQ.out, HRS.out, ← HT.out]; show Ret mlo _ _ _ (.ok (tookT t rest)); unfold tookT; rw [if_pos HCA.out]; exact ⟨_, rfl, hv8, uw, ug, up, ho8, hf8⟩, HB7.out.trans (hb8.mono (by omega))⟩
      | false =>
        rw [hca] at k9
        have HCA := Lib.hid (show ¬ t.cancelled = true by rw [hca]; simp)
        clear hca
        by_cases hre : rest.length = 0
        · have d0 : decide ((rest.length : Int) = 0) = true := decide_eq_true (by omega)
          have d00 : ((rest.length : Int) == 0) = true := by rw [beq_iff_eq]; omega
          have HRE := Lib.hid hre
          clear hre hvl hF0
          have cT := Lib.hid (tell_calls t _ _ _ b 2 W7 hob7 hoff7)
          clear hob7 hoff7
          go_wp2_with fail
          refine cT.out.mono ?_
          rintro e W8 ⟨⟨vl8, rfl, hv8⟩, ho8, hf8, hb8⟩
          obtain ⟨A8, c8, rfl, -⟩ := hv8.form
          go_wp2
          go_ret2
          exact ⟨by rw [HCQ.out, HRS.out, ← HT.out]; show Ret mlo _ _ _ (.ok (tookT t rest)); unfold tookT; rw [if_neg HCA.out, if_pos HRE.out]; exact ⟨_, rfl, hv8, _, _, _, ho8, hf8⟩, HB7.out.trans (hb8.mono (by omega))⟩
        · have d0 : decide ((rest.length : Int) = 0) = false := decide_eq_false (by omega)
          have d00 : ((rest.length : Int) == 0) = false := by rw [beq_eq_false_iff_ne]; omega
          have d01 : ¬ rest.length = 0 := hre
          have HRE := Lib.hid hre
          clear hre
          have HC7 := Lib.hid (fun V (h : Below W7.drew.heap.size W7.drew V) => show V.cell? ⟨b, 1, none⟩ = some (.int .i64 t.first) ∧ V.cell? ⟨b, 2, none⟩ = some (.int .i64 t.regions) ∧ V.cell? ⟨b, 6, none⟩ = some (.int .i64 t.asked) from
            ⟨((hob7.same (Below.refl W7.heap.size W7).drew).same h).cell rfl, ((hob7.same (Below.refl W7.heap.size W7).drew).same h).cell rfl, ((hob7.same (Below.refl W7.heap.size W7).drew).same h).cell rfl⟩)
          by_cases hlt7 : t.asked < t.regions
          · have d1 : decide (t.asked < t.regions) = true := decide_eq_true hlt7
            have HO7 := Lib.hid hob7
            have HF7 := Lib.hid hoff7
            have HV7 := Lib.hid hv7
            have HLT7 := Lib.hid hlt7
            clear hob7 hoff7 hv7 hlt7
            go_wp2
            refine Pu.regionW (fun Wq => Below W7.drew.heap.size W7.drew Wq) hmx (by kernel_rfl) (by kernel_rfl) (Below.refl _ _) rfl ?_
            iterate 10 (first
              | (refine Pu.Walk.off (by rfl) ?_; simp only [Act.put, List.setIfInBounds_toArray, List.set_cons_succ, List.set_cons_zero])
              | (apply Pu.Walk.on (by rfl)
                 · intro V1 h1
                   obtain ⟨q1, q2, q6⟩ := HC7.out V1 h1
                   go_wp2_with fail
                   refine ⟨rfl, ?_, h1⟩
                   try simp only [Act.put, List.setIfInBounds_toArray, List.set_cons_succ, List.set_cons_zero]
                   rfl
                 simp only [Act.put, List.setIfInBounds_toArray, List.set_cons_succ, List.set_cons_zero]))
            refine Pu.Walk.nil (fun V h1 => ?_)
            have hdr7 : Below W7.heap.size W7 V.drew := ((Below.refl W7.heap.size W7).drew.trans h1).drew
            have hob8 := HO7.out.same hdr7
            have hoff8 := HF7.out.later hdr7
            have hv8 := row_later HV7.out hdr7
            have HB8 := Lib.hid (HB7.out.trans (hdr7.mono (by omega)))
            have hs8 := hdr7.size
            clear h1 hdr7 HO7 HF7 HV7 HB7 HC7 k1 k2 k6 k9
            have HC8 := Lib.hid (fun U (h : Below V.drew.heap.size V.drew U) => show U.cell? ⟨b, 1, none⟩ = some (.int .i64 t.first) ∧ U.cell? ⟨b, 2, none⟩ = some (.int .i64 t.regions) ∧ U.cell? ⟨b, 6, none⟩ = some (.int .i64 t.asked) from
              ⟨(hob8.same h).cell rfl, (hob8.same h).cell rfl, (hob8.same h).cell rfl⟩)
            have cV := Lib.hid (fun U => visit_calls t.first t.regions U)
            have HO8 := Lib.hid hob8
            have HF8 := Lib.hid hoff8
            have HV8 := Lib.hid hv8
            clear hob8 hoff8 hv8
            obtain ⟨a, ha⟩ : ∃ a : Nat, t.asked = (a : Int) := ⟨t.asked.toNat, by omega⟩
            have hav : a < (visit t.first t.regions).length := by have := HLT7.out; omega
            have hn : t.asked.toNat = a := by omega
            have HN := Lib.hid hn
            have HA := Lib.hid ha
            have ha8 : (a : Int) ≤ 8 := by omega
            clear hn ha
            generalize hvs : visit t.first t.regions = vs at hvl hav cV
            have HVS := Lib.hid hvs
            clear hvs
            go_wp2
            refine Pu.regionM [(0, false), (1, false), (2, false), (3, false), (4, false), (5, false), (6, false), (7, false), (9, false), (10, false), (11, false), (12, false), (8, true), (13, false), (14, false), (15, false)] (fun Wq => Below V.drew.heap.size V.drew Wq) hmx (by kernel_rfl) (by kernel_rfl) (by kernel_rfl) (Below.refl _ _) rfl ?_
            simp only [Pu.named, List.filterMap_cons, List.filterMap_nil, List.getElem?_toArray, List.getElem?_cons_succ, List.getElem?_cons_zero, Option.map_some]
            iterate 12 (
              apply Pu.WalkM.on (by rfl)
              · intro V1 h1
                obtain ⟨q1, q2, q6⟩ := HC8.out V1 h1
                go_wp2_with fail
                refine ⟨rfl, ?_, rfl⟩
                try simp only [Act.put, List.setIfInBounds_toArray, List.set_cons_succ, List.set_cons_zero]
                rfl
              simp only [Act.put, List.setIfInBounds_toArray, List.set_cons_succ, List.set_cons_zero])
            refine Pu.WalkM.make (by rfl) ?_
            rintro W' rfl
            go_wp2_with (go_at_call 37; refine (cV.out _).mono ?_; rintro e W9 ⟨⟨v9, rfl, hv9⟩, hb9⟩)
            obtain ⟨A9, c9, rfl, hv9l, hv9c, -⟩ := (IntsAt.of_own hv9).form
            unfold maxLen at hv9c
            obtain ⟨b9, o9, rfl, -, -, hck9⟩ := (IntsAt.of_own hv9).cellAt hav
            have hob9 := HO8.out.same hb9
            have hoff9 := HF8.out.later hb9
            have hvr9 := row_later HV8.out hb9
            have HB9 := Lib.hid (HB8.out.trans (hb9.mono (by omega)))
            have hs9 := hb9.size
            clear hv9 HO8 HF8 HV8 HC8 cV
            refine ⟨rfl, .slice (some ⟨b9, o9, none⟩) vs.length c9, (fun U => U = W9), (fun U => U = W9), ?_, rfl, (fun U h => h), (.inr (fun U h => by rw [h]; exact hb9)), ?_⟩
            · simp only [Act.put, List.setIfInBounds_toArray, List.set_cons_succ, List.set_cons_zero]
            simp only [Act.put, List.setIfInBounds_toArray, List.set_cons_succ, List.set_cons_zero]
            generalize hnx : vs.getD a 0 = nx at hck9
            have HNX := Lib.hid hnx
            clear hnx
            rw [HA.out]
            iterate 3 (
              apply Pu.WalkM.on (by rfl)
              · rintro W rfl
                go_wp2_with fail
                refine ⟨rfl, ?_, rfl⟩
                try simp only [Act.put, List.setIfInBounds_toArray, List.set_cons_succ, List.set_cons_zero]
                rfl
              simp only [Act.put, List.setIfInBounds_toArray, List.set_cons_succ, List.set_cons_zero])
            refine Pu.WalkM.nil ?_
            rintro U rfl
            have f6 := hob9.frozen 6
            obtain ⟨-, -, -, -, -, -, k6, -, -, -⟩ := ob_ten hob9
            rw [HA.out] at k6
            obtain ⟨g8, f8, U3, hU3, hob12, hoff12, hrs12, hb12, hz12⟩ := next_mem hob9 hoff9 ((a : Int) + 1) nx ((ItemsAt.of_own hvr9).wide (by omega) (Nat.le_refl _))
            have hst := (StepsAt.one' (w := U3) (lo := mlo) (x := ⟨3, nx, rest, 0⟩) (hrs12.wide (by have := hoff12.mb; omega) (Nat.le_refl _)) (Nat.le_refl _) (by have := hoff12.mb; omega)).wide (Nat.le_refl _) (show U3.heap.size + 1 ≤ (U3.alloc (.cells #[.int .i64 3, .int .i64 nx, .slice A7 rest.length c7, .int .i64 0] 52)).heap.size by rw [World.size_alloc]; omega)
            have hal := (Below.refl U3.heap.size U3).alloc (Nat.le_refl _) (.cells #[.int .i64 3, .int .i64 nx, .slice A7 rest.length c7, .int .i64 0] 52)
            have hob13 := hob12.same hal
            have hoff13 := hoff12.later hal
            have HB13 := Lib.hid ((HB9.out.trans (hb12.mono (by omega))).trans (hal.mono (by omega)))
            have HO13 := Lib.hid hob13
            have HF13 := Lib.hid hoff13
            have HST := Lib.hid hst
            clear hob9 hoff9 hvr9 hob12 hoff12 hrs12 hb12 hal hob13 hoff13 hst
            go_wp2
            go_ret2
            refine ⟨?_, HB13.out⟩
            rw [HCQ.out, HRS.out, ← HT.out]
            show Ret mlo _ _ _ (.ok (tookT t rest))
            unfold tookT
            rw [if_neg HCA.out, if_neg HRE.out, if_pos HLT7.out, HN.out, HVS.out, HNX.out, HA.out]
            rw [← hz12] at *
            exact ⟨_, rfl, HST.out, _, _, _, HO13.out, HF13.out⟩
          · have d1 : decide (t.asked < t.regions) = false := decide_eq_false hlt7
            have HLT7 := Lib.hid hlt7
            clear hlt7 hvl hF0
            have HO7 := Lib.hid hob7
            have HF7 := Lib.hid hoff7
            clear hob7 hoff7 hv7
            go_wp2
            refine Pu.regionW (fun Wq => Below W7.drew.heap.size W7.drew Wq) hmx (by kernel_rfl) (by kernel_rfl) (Below.refl _ _) rfl ?_
            iterate 10 (first
              | (refine Pu.Walk.off (by rfl) ?_; simp only [Act.put, List.setIfInBounds_toArray, List.set_cons_succ, List.set_cons_zero])
              | (apply Pu.Walk.on (by rfl)
                 · intro V1 h1
                   obtain ⟨q1, q2, q6⟩ := HC7.out V1 h1
                   go_wp2_with fail
                   refine ⟨rfl, ?_, h1⟩
                   try simp only [Act.put, List.setIfInBounds_toArray, List.set_cons_succ, List.set_cons_zero]
                   rfl
                 simp only [Act.put, List.setIfInBounds_toArray, List.set_cons_succ, List.set_cons_zero]))
            refine Pu.Walk.nil (fun V h1 => ?_)
            have hdr7 : Below W7.heap.size W7 V := (Below.refl W7.heap.size W7).drew.trans h1
            have hob8 := HO7.out.same hdr7
            have hoff8 := HF7.out.later hdr7
            have HB8 := Lib.hid (HB7.out.trans (hdr7.mono (by omega)))
            have hs8 := hdr7.size
            clear h1 hdr7
            have cU := Lib.hid (undo_calls t _ _ _ b V hob8 hoff8 hgl)
            clear hob8 hoff8
            go_wp2_with fail
            refine cU.out.mono ?_
            rintro e W9 ⟨⟨vl8, rfl, hv8⟩, ⟨uw, ug, up, ho9, hf9⟩, hb9⟩
            obtain ⟨A8, c8, rfl, -⟩ := hv8.form
            go_wp2
            go_ret2
            exact ⟨by rw [HCQ.out, HRS.out, ← HT.out]; show Ret mlo _ _ _ (.ok (tookT t rest)); unfold tookT; rw [if_neg HCA.out, if_neg HRE.out, if_neg (by have := HLT7.out; omega)]; exact ⟨_, rfl, hv8, uw, ug, up, ho9, hf9⟩, HB8.out.trans (hb9.mono (by omega))⟩
  · rw [if_neg hy]
    have hn : s.state ≠ 1 ∨ Life.idxOf ev.region s.pending = -1 := by
      by_cases h : s.state = 1
      · exact .inr (Decidable.byContradiction fun h' => hy ⟨h, h'⟩)
      · exact .inl h
    have cN := Lib.hid (fun W (h : Below (w.heap.size + 1) _ W) => mine_no 1 ev.region (hm0.later (by rw [hWs]; exact h)) hn)
    clear hy hn hm0 hal
    generalize hW : w.alloc _ = W0 at *
    obtain ⟨e0, e1, e2⟩ := ob_three hoE
    go_enter Tryz.func68, Tryz.ntmps68
    go_wp2_with (refine wpList_load_obg (by rfl) _ _ rfl rfl _ HO.out Tryz.underlying26 rfl (by kernel_rfl) ?_)
    refine cM.out.mono ?_
    rintro e W1 ⟨⟨vl, rfl, hvl⟩, hb1⟩
    have hoE1 := hoE.same hb1
    obtain ⟨A1, c1, rfl, -⟩ := (ItemsAt.of_own hvl).form
    have HB1 := Lib.hid (HBA.out.trans (hb1.mono (by omega)))
    have cN1 := Lib.hid (cN.out W1 (hWs ▸ hb1))
    clear cN cM hvl hb1 e0 e1 e2 HO hW
    obtain ⟨e0, e1, e2⟩ := ob_three hoE1
    go_wp2_with fail
    refine cN1.out.mono ?_
    rintro e w1 ⟨rfl, rfl⟩
    go_wp2
    go_ret2
    exact ⟨rfl, HB1.out⟩
end Sa
end Go.Proofs.YthfpfomifebpbaaGreat

namespace Go.Proofs.YthfpfomifebpbaaGreat
open Go.RowKit Go.Maps
namespace Sa
open It
variable {mlo : Nat}

theorem row_set {w : World} {base n cap gb r : Nat} {e : TypeId} {vs : List Value} {x : Value} (h : w.ownsRow base e 1 (.slice (some ⟨gb, 0, none⟩) n cap) n vs) (hr : r < n) :
    (w.setCell ⟨gb, r, none⟩ x).ownsRow base e 1 (.slice (some ⟨gb, 0, none⟩) n cap) n (vs.set r x) := by
  obtain ⟨g1, g2⟩ := h
  rcases g2 with ⟨e', hz⟩ | ⟨gb', cap', cur, e', q1, q2, q3, q4, q5, q6⟩
  · omega
  · cases e'
    have hob : Ob w gb e cur := q2
    have hob' := hob.set r x
    refine ⟨by simp [g1], .inr ⟨gb, cap, _, rfl, q1, hob', q3, q4, by simpa using q5, ?_⟩⟩
    rw [Nat.mul_one] at q6 ⊢
    rw [← q6, ← List.take_set]
    congr 1
    simp
/-- the memory behind the first two copies -/
theorem cop_three {s : Saga} {w Wz W1 W2 : World} {vw vg vp u1 u2 : Value} {Z : Array Value} (ho : Ob W2 w.heap.size 26 (sagaC s vw vg vp)) (hoB : Ob W2 (w.heap.size + 1) 26 Z) (hbz : Below w.heap.size w Wz.drew) (hb1 : Below Wz.drew.heap.size Wz.drew W1) (hb2 : Below W1.heap.size W1 W2)
    (hu1 : W1.ownsRow Wz.drew.heap.size 50 2 u1 s.want.length (itemCells s.want)) (hu2 : W2.ownsRow W1.heap.size 3 1 u2 s.pending.length (ints s.pending)) (hsz : w.heap.size + 1 < Wz.drew.heap.size) :
    ∃ W3, (W2.setCell ⟨w.heap.size, 3, none⟩ u1).setCell ⟨w.heap.size, 8, none⟩ u2 = W3 ∧ Ob W3 w.heap.size 26 (sagaC s u1 vg u2) ∧ Ob W3 (w.heap.size + 1) 26 Z ∧ ItemsAt W3 (w.heap.size + 2) W1.heap.size u1 s.want ∧
      W3.ownsRow W1.heap.size 3 1 u2 s.pending.length (ints s.pending) ∧ (∀ g, u2.ownBlock = some g → g < W2.heap.size) ∧ W3.heap.size = W2.heap.size ∧ Below w.heap.size w W3 ∧ w.heap.size + 2 ≤ W3.heap.size := by
  have h1 := hb1.size
  have h2 := hb2.size
  have hk : Kept (fun i => i < W2.heap.size ∧ i ≠ w.heap.size) W2 ((W2.setCell ⟨w.heap.size, 3, none⟩ u1).setCell ⟨w.heap.size, 8, none⟩ u2) :=
    (Kept.of_grown (grownBy_set W2 w.heap.size 3 u1) fun i hi => ⟨hi.1, fun e => hi.2 (by cases e; rfl)⟩).trans (Kept.of_grown (grownBy_set _ w.heap.size 8 u2) fun i hi => ⟨by rw [set_size]; exact hi.1, fun e => hi.2 (by cases e; rfl)⟩)
  have hw2 : ItemsAt W2 Wz.drew.heap.size W1.heap.size u1 s.want := (ItemsAt.of_own hu1).mono hb2 (Nat.le_refl _)
  refine ⟨_, rfl, (ho.set 3 u1).set 8 u2, hk.ob hoB ⟨hoB.lt, by omega⟩, (hk.sl hw2 fun i ha hb => ⟨by omega, by omega⟩).wide (by omega) (Nat.le_refl _), own_kept hu2 hk fun g hg => ⟨(hu2.lt g hg).2, by have := (hu2.lt g hg).1; omega⟩, fun g hg => (hu2.lt g hg).2, by rw [set_size, set_size], ?_, by rw [set_size, set_size]; omega⟩
  exact ((hbz.trans ((hb1.mono (by omega)).trans (hb2.mono (by omega))))).trans (hk.below fun i hi => ⟨by omega, by omega⟩)

theorem cop_five {s : Saga} {W4 : World} {p P G : Nat} {u1 u2 vg ug : Value} {Z : Array Value} {vs : List Value} (ho : Ob W4 p 26 (sagaC s u1 vg u2)) (hoB : Ob W4 (p + 1) 26 Z) (hw : ItemsAt W4 (p + 2) P u1 s.want) (hp : W4.ownsRow P 3 1 u2 s.pending.length (ints s.pending))
    (hg : W4.ownsRow G 22 1 ug s.got.length vs) (hP : p + 2 ≤ P) (hPG : P ≤ G) (hGW : G ≤ W4.heap.size) :
    ∃ W5, W4.setCell ⟨p, 7, none⟩ ug = W5 ∧ Ob W5 p 26 (sagaC s u1 ug u2) ∧ Ob W5 (p + 1) 26 Z ∧ ItemsAt W5 (p + 2) P u1 s.want ∧ W5.ownsRow P 3 1 u2 s.pending.length (ints s.pending) ∧ W5.ownsRow G 22 1 ug s.got.length vs ∧
      (∀ g, ug.ownBlock = some g → g < W5.heap.size) ∧ W5.heap.size = W4.heap.size ∧ Below p W4 W5 := by
  have hk : Kept (fun i => i < W4.heap.size ∧ i ≠ p) W4 (W4.setCell ⟨p, 7, none⟩ ug) := Kept.of_grown (grownBy_set W4 p 7 ug) fun i hi => ⟨hi.1, fun e => hi.2 (by cases e; rfl)⟩
  refine ⟨_, rfl, ho.set 7 ug, hk.ob hoB ⟨hoB.lt, by omega⟩, hk.sl hw fun i ha hb => ⟨by omega, by omega⟩, own_kept hp hk fun g e => ⟨(hp.lt g e).2, by have := (hp.lt g e).1; omega⟩, own_kept hg hk fun g e => ⟨(hg.lt g e).2, by have := (hg.lt g e).1; omega⟩, fun g e => by rw [set_size]; exact (hg.lt g e).2, set_size _ _ _ _, below_set W4 p 7 ug⟩
/-- the row of got behind k copies -/
structure CopRow (W5 wr : World) (G L : Nat) (ug : Value) (got : List (List It.Item)) (vs0 vs : List Value) (k : Nat) : Prop where
  len : vs.length = got.length
  row : wr.ownsRow G 22 1 ug got.length vs
  done : ∀ j, j < k → ItemsAt wr L wr.heap.size (vs.getD j (.slice none 0 0)) (got.getD j [])
  rest : ∀ j, k ≤ j → vs.getD j (.slice none 0 0) = vs0.getD j (.slice none 0 0)
  kept : Kept (fun i => i < W5.heap.size ∧ ug.ownBlock ≠ some i) W5 wr

theorem own_place {w : World} {base n cap gb r : Nat} {e : TypeId} {vs : List Value} (h : w.ownsRow base e 1 (.slice (some ⟨gb, 0, none⟩) n cap) n vs) (hr : r < n) :
    w.cell? ⟨gb, r, none⟩ = some (vs.getD r (.slice none 0 0)) ∧ w.frozen? ⟨gb, r, none⟩ = false := by
  obtain ⟨g1, g2⟩ := h
  rcases g2 with ⟨e', hz⟩ | ⟨gb', cap', cur, e', q1, q2, q3, q4, q5, q6⟩
  · omega
  · cases e'
    have hc : vs[r]? = cur[r]? := by rw [← q6, Nat.mul_one, List.getElem?_take_of_lt hr, Array.getElem?_toList]
    have hv : vs[r]? = some (vs.getD r (.slice none 0 0)) := by rw [List.getD, List.getElem?_eq_getElem (by omega)]; rfl
    exact ⟨by rw [show w.cell? ⟨gb, r, none⟩ = cur[r]? by simp [World.cell?, q2], ← hc, hv], by simp [World.frozen?, q2]⟩
theorem cop_round {W5 wr W6 : World} {G gb cap k : Nat} {v6 : Value} {got : List (List It.Item)} {vs0 vs : List Value} (h : CopRow W5 wr G W5.heap.size (.slice (some ⟨gb, 0, none⟩) got.length cap) got vs0 vs k) (hk : k < got.length) (hgb : gb < W5.heap.size)
    (hb : Below wr.heap.size wr W6) (hv : ItemsAt W6 wr.heap.size W6.heap.size v6 (got.getD k [])) :
    CopRow W5 (W6.setCell ⟨gb, k, none⟩ v6) G W5.heap.size (.slice (some ⟨gb, 0, none⟩) got.length cap) got vs0 (vs.set k v6) (k + 1) := by
  have h1 := h.kept.size
  have h2 := hb.size
  have hl := h.len
  have hk' : Kept (fun i => i < W6.heap.size ∧ i ≠ gb) W6 (W6.setCell ⟨gb, k, none⟩ v6) := Kept.of_grown (grownBy_set W6 gb k v6) fun i hi => ⟨hi.1, fun e => hi.2 (by cases e; rfl)⟩
  refine ⟨by simp [hl], row_set (row_later h.row hb) hk, fun j hj => ?_, fun j hj => ?_, (h.kept.trans (Kept.of_below hb fun i hi => by have := hi.1; omega)).trans (hk'.mono fun i hi => ⟨by have := hi.1; omega, fun e => hi.2 (by rw [e]; rfl)⟩)⟩
  · rw [set_size]
    by_cases e : j = k
    · subst e
      rw [show (vs.set j v6).getD j (.slice none 0 0) = v6 by simp [List.getD, show j < vs.length by omega]]
      exact (hk'.sl hv fun i ha hb' => ⟨hb', by omega⟩).wide (by omega) (Nat.le_refl _)
    · rw [show (vs.set k v6).getD j (.slice none 0 0) = vs.getD j (.slice none 0 0) by simp [List.getD, List.getElem?_set_ne (Ne.symm e)]]
      exact hk'.sl ((h.done j (by omega)).mono hb h2) fun i ha hb' => ⟨hb', by omega⟩
  · rw [show (vs.set k v6).getD j (.slice none 0 0) = vs.getD j (.slice none 0 0) by simp [List.getD, List.getElem?_set_ne (show k ≠ j by omega)]]
    exact h.rest j (by omega)

theorem cop_end {s : Saga} {p P G2 : Nat} {W3 W5 wr W8 : World} {u1 u2 ug : Value} {vs0 vs : List Value} (h : CopRow W5 wr W3.heap.size W5.heap.size ug s.got vs0 vs s.got.length) (hw : ItemsAt W5 (p + 2) P u1 s.want) (hp : W5.ownsRow P 3 1 u2 s.pending.length (ints s.pending))
    (hpG : ∀ g, u2.ownBlock = some g → g < G2) (hgL : ∀ g, ug.ownBlock = some g → g < W5.heap.size) (hg8 : wr.grownBy W8 (some (p + 1))) (hPG : P ≤ G2) (hz3 : W3.heap.size = G2) (h35 : W3.heap.size ≤ W5.heap.size) (hpP : p + 2 ≤ P) (_ : p + 2 ≤ W3.heap.size) :
    ∀ W b, Below W8.heap.size W8 W → W8.heap.size ≤ b → Ob W b 26 (sagaC s u1 ug u2) → Mine (p + 2) W P W3.heap.size W5.heap.size b s u1 ug u2 := by
  intro W b hW hb hob
  have h1 := h.kept.size
  have h2 := hg8.size
  have h3 := hW.size
  have hk : Kept (fun i => i < wr.heap.size ∧ i ≠ p + 1) wr W := (Kept.of_grown hg8 fun i hi => ⟨hi.1, fun e => hi.2 (by cases e; rfl)⟩).trans (Kept.of_below hW fun i hi => by omega)
  have hrl := fun g e => (h.row.lt g e).1
  have hpl := fun g e => (hp.lt g e).1
  have hk5 : Kept (fun i => i < W5.heap.size ∧ i < W3.heap.size ∧ i ≠ p + 1) W5 W := (h.kept.mono fun i hi => ⟨hi.1, fun e => by have := hrl i e; omega⟩).trans (hk.mono fun i hi => ⟨by omega, hi.2.2⟩)
  refine ⟨hob, by omega, by omega, h35, by omega, hk5.sl hw fun i ha hb => ⟨by omega, by omega, by omega⟩, own_kept hp hk5 fun g e => ⟨by have := hpG g e; omega, by have := hpG g e; omega, by have := hpl g e; omega⟩, fun g e => by have := hpG g e; omega, vs, h.len, own_kept h.row hk fun g e => ⟨by have := hgL g e; omega, by have := hrl g e; omega⟩, hgL, fun k hk' => (hk.sl (h.done k hk') fun i ha hb => ⟨by omega, by omega⟩).wide (Nat.le_refl _) (by omega)⟩

set_option maxRecDepth 100000 in
set_option maxHeartbeats 4000000 in
theorem copied_calls (s : Saga) (vw vg vp : Value) (w : World) (h : Parts w 0 w.heap.size s vw vg vp) (hnw : s.want.length ≤ 1000000) (hng : s.got.length ≤ 1000000) (hnp : s.pending.length ≤ 1000000) (hnl : ∀ k, (s.got.getD k []).length ≤ 1000000) :
    Calls Tryz.prog 24 #[.agg (sagaC s vw vg vp)] w fun e w' => (∃ uw ug up P G L, e = .returned (.agg (sagaC s uw ug up)) ∧ w.heap.size ≤ P ∧
      (∀ W b, Below w'.heap.size w' W → w'.heap.size ≤ b → Ob W b 26 (sagaC s uw ug up) → Mine (w.heap.size + 2) W P G L b s uw ug up)) ∧ Below w.heap.size w w' := by
  have hmx : Tryz.prog.follows .mixedOrders = true := by kernel_rfl
  have HW := Lib.hid (fun W (hb : Below w.heap.size w W) => (h.later hb).want)
  have HP := Lib.hid (fun W (hb : Below w.heap.size w W) => (h.later hb).pend)
  have HG := Lib.hid h.got
  obtain ⟨A, c, rfl, -⟩ := h.want.form
  obtain ⟨A', c', rfl, hc1, hc2⟩ := h.got.form
  obtain ⟨A2, c2, rfl, -⟩ := h.pend.form
  unfold maxLen at hc2
  clear h
  unfold sagaC
  have hal1 := (Below.refl w.heap.size w).alloc (Nat.le_refl _) (.cells #[.int .i64 s.order, .int .i64 s.first, .int .i64 s.regions, .slice A s.want.length c, .bool s.waits, .int .i64 s.state, .int .i64 s.asked, .slice A' s.got.length c', .slice A2 s.pending.length c2, .bool s.cancelled] 26)
  have hob1 := Ob.new w 26 #[.int .i64 s.order, .int .i64 s.first, .int .i64 s.regions, .slice A s.want.length c, .bool s.waits, .int .i64 s.state, .int .i64 s.asked, .slice A' s.got.length c', .slice A2 s.pending.length c2, .bool s.cancelled]
  have hz1 : (w.alloc (.cells #[.int .i64 s.order, .int .i64 s.first, .int .i64 s.regions, .slice A s.want.length c, .bool s.waits, .int .i64 s.state, .int .i64 s.asked, .slice A' s.got.length c', .slice A2 s.pending.length c2, .bool s.cancelled] 26)).heap.size = w.heap.size + 1 := World.size_alloc _ _
  go_enter Tryz.func24, Tryz.ntmps24
  go_wp2
  have hal2 := hal1.alloc hal1.size (.cells #[.int .i64 0, .int .i64 0, .int .i64 0, .slice none 0 0, .bool false, .int .i64 0, .int .i64 0, .slice none 0 0, .slice none 0 0, .bool false] 26)
  have hobA : Ob _ w.heap.size 26 _ := hob1.alloc (.cells #[.int .i64 0, .int .i64 0, .int .i64 0, .slice none 0 0, .bool false, .int .i64 0, .int .i64 0, .slice none 0 0, .slice none 0 0, .bool false] 26)
  have hobB := Ob.new (w.alloc (.cells #[.int .i64 s.order, .int .i64 s.first, .int .i64 s.regions, .slice A s.want.length c, .bool s.waits, .int .i64 s.state, .int .i64 s.asked, .slice A' s.got.length c', .slice A2 s.pending.length c2, .bool s.cancelled] 26)) 26 #[.int .i64 0, .int .i64 0, .int .i64 0, .slice none 0 0, .bool false, .int .i64 0, .int .i64 0, .slice none 0 0, .slice none 0 0, .bool false]
  rw [hz1] at hobB
  generalize (w.alloc (.cells #[.int .i64 s.order, .int .i64 s.first, .int .i64 s.regions, .slice A s.want.length c, .bool s.waits, .int .i64 s.state, .int .i64 s.asked, .slice A' s.got.length c', .slice A2 s.pending.length c2, .bool s.cancelled] 26)).alloc (.cells #[.int .i64 0, .int .i64 0, .int .i64 0, .slice none 0 0, .bool false, .int .i64 0, .int .i64 0, .slice none 0 0, .slice none 0 0, .bool false] 26) = Wz at *
  have hobA : Ob Wz.drew w.heap.size 26 _ := hobA
  have hobB : Ob Wz.drew (w.heap.size + 1) 26 _ := hobB
  have hbz := hal2.drew
  have hsz := hobB.lt
  obtain ⟨-, -, -, a3, -, -, -, -, a8, -⟩ := ob_ten hobA
  have cC1 := Lib.hid (clonei_calls s.want _ Wz.drew (HW.out _ hbz) hnw)
  have HBZ := Lib.hid hbz
  have HOA := Lib.hid hobA
  have HOB := Lib.hid hobB
  clear hal1 hal2 hz1 hob1 hbz hobA hobB
  go_region_with (first
      | (go_at_call 63; refine cC1.out.mono ?_; rintro e W1 ⟨⟨u1, rfl, hu1⟩, hb1⟩; obtain ⟨-, -, -, b3, -, -, -, -, b8, -⟩ := ob_ten (HOA.out.same hb1); obtain ⟨B1, d1, rfl, -⟩ := (ItemsAt.of_own hu1).form; have HB1 := Lib.hid hb1; have HU1 := Lib.hid hu1; have cC2 := Lib.hid (clonen_calls s.pending _ W1 (HP.out _ (HBZ.out.trans (hb1.mono HBZ.out.size))) hnp); clear hu1 hb1)
      | (go_at_call 66; refine cC2.out.mono ?_; rintro e W2 ⟨⟨u2, rfl, hu2⟩, hb2⟩; obtain ⟨-, -, -, d3, -, -, -, -, d8, -⟩ := ob_ten ((HOA.out.same HB1.out).same hb2); obtain ⟨B2, d2, rfl, -⟩ := (IntsAt.of_own hu2).form; have HB2 := Lib.hid hb2; have HU2 := Lib.hid hu2; have f3 := ((HOA.out.same HB1.out).same hb2).frozen 3; have f8 := ((HOA.out.same HB1.out).same hb2).frozen 8; clear hu2 hb2))
  all_goals (
    have ho2 := (HOA.out.same HB1.out).same HB2.out
    have hoB2 := (HOB.out.same HB1.out).same HB2.out
    obtain ⟨W3, hW3, ho3, hoB3, hw3, hp3, hpG, hz3, hb3, hsz3⟩ := cop_three ho2 hoB2 HBZ.out HB1.out HB2.out HU1.out HU2.out hsz
    rw [hW3]
    have HO3 := Lib.hid ho3
    have HOB3 := Lib.hid hoB3
    have HW3' := Lib.hid hw3
    have HP3 := Lib.hid hp3
    have HPG := Lib.hid hpG
    have HB3 := Lib.hid hb3
    have hz12 : W1.heap.size ≤ W2.heap.size := HB2.out.size
    have hz01 : w.heap.size + 2 ≤ W1.heap.size := by have := HB1.out.size; have : Wz.drew.heap.size = Wz.heap.size := rfl; omega
    clear ho2 hoB2 hW3 f3 f8 b3 b8 d3 d8 a3 a8 HB1 HB2 HU1 HU2 HBZ HOA HOB cC1 cC2 HP ho3 hoB3 hw3 hp3 hpG hb3
    obtain ⟨vs0, hl0, hsl0, hit0⟩ := HG.out
    have h10 : ∀ y ∈ vs0, y.oneCell' = true := fun y hy => by
      obtain ⟨k, hk, rfl⟩ := List.getElem_of_mem hy
      have := hit0 k (by omega)
      rw [List.getD, List.getElem?_eq_getElem hk] at this
      obtain ⟨A7, c7, e7, -⟩ := this.form
      rw [show vs0[k] = _ from e7]
      rfl
    have cG := Lib.hid (cloneg_calls s.got (.slice A' s.got.length c') vs0 W3 ((hsl0.below HB3.out).wide (Nat.le_refl _) (by omega)) h10 hng)
    have HIT := Lib.hid hit0
    obtain ⟨-, -, -, -, -, -, -, k7, -, -⟩ := ob_ten HO3.out
    clear HG hsl0 h10 hit0
    go_wp2_with fail
    refine cG.out.mono ?_
    rintro e W4 ⟨⟨ug, rfl, hug⟩, hb4⟩
    have ho4 := HO3.out.same hb4
    have g7 : W4.cell? ⟨w.heap.size, 7, none⟩ = some (.slice A' s.got.length c') := ho4.cell rfl
    have f7 := ho4.frozen 7
    have hz4 := hb4.size
    obtain ⟨W5, hW5, ho5, hoB5, hw5, hp5, hg5, hgL5, hz5, hb5⟩ := cop_five ho4 (HOB3.out.same hb4) (HW3'.out.mono (hb4.mono (by omega)) (Nat.le_refl _)) (row_later HP3.out hb4) hug hz01 (show W1.heap.size ≤ W3.heap.size by omega) hz4
    have HB5 := Lib.hid ((HB3.out.trans (hb4.mono (by omega))).trans hb5)
    obtain ⟨A6, c6, rfl, hc61, hc62, -⟩ := (Sl.of_own hug).at_
    unfold maxLen at hc62
    have HO5 := Lib.hid ho5
    have HOB5 := Lib.hid hoB5
    have HW5' := Lib.hid hw5
    have HP5 := Lib.hid hp5
    have HGL5 := Lib.hid hgL5
    obtain ⟨-, -, -, -, -, -, -, m7, -, -⟩ := ob_ten ho5
    have hcr : CopRow W5 W5 W3.heap.size W5.heap.size (.slice A6 s.got.length c6) s.got vs0 vs0 0 := ⟨hl0, hg5, fun j hj => by omega, fun j _ => rfl, Kept.refl _ _⟩
    have HCR := Lib.hid hcr
    clear HO3 HOB3 HW3' HP3 HB3 cG ho4 hug hb4 ho5 hoB5 hw5 hp5 hg5 hgL5 hb5 hcr k7
    go_wp2
    clear hW5 g7 f7
    go_loopw [3, 4, 20] (fun _ _ i wr => ∃ (k : Nat) (vs : List Value), k ≤ s.got.length ∧ i = .int .i64 k ∧ CopRow W5 wr W3.heap.size W5.heap.size (.slice A6 s.got.length c6) s.got vs0 vs k) (fun _ _ i _ => s.got.length - (intOf i).toNat)
    case atStart => exact ⟨0, vs0, by omega, rfl, HCR.out⟩
    case round =>
      obtain ⟨k, vs, hk, rfl, hC⟩ := hrel
      have HC := Lib.hid hC
      clear hC
      by_cases hlt : k < s.got.length
      · have hd : decide ((k : Int) < s.got.length) = true := decide_eq_true (by omega)
        have hrow := HC.out.row
        rcases hrow.2 with ⟨-, hz⟩ | ⟨gb, cap, cur, e', q1, -⟩
        · omega
        cases e'
        have hgl : gb < W5.heap.size := HGL5.out gb rfl
        have hcell := (own_place hrow hlt).1
        have hBw : Below w.heap.size W5 wr := HC.out.kept.below fun i hi => ⟨by omega, fun e => by have e2 : gb = i := Option.some.inj e; omega⟩
        have hx := HIT.out k hlt
        rw [← HC.out.rest k (Nat.le_refl _)] at hx
        generalize vs.getD k (.slice none 0 0) = x at hcell hx
        have hwr := HC.out.kept.size
        have hBwr := HB5.out.trans hBw
        have hor := HC.out.kept.ob HO5.out ⟨by omega, fun e => by have e2 : gb = w.heap.size := Option.some.inj e; omega⟩
        have hdr : Below wr.heap.size wr wr.drew := (Below.refl _ _).drew
        have hcK := hnl k
        generalize hgk : s.got.getD k [] = lk at hx hcK
        have HGK := Lib.hid hgk
        clear hgk hrow q1
        have cK := Lib.hid (fun V (h : Below wr.drew.heap.size wr.drew V) => clonei_calls lk x V ((hx.mono ((hBwr.trans (hdr.mono (by omega))).trans (h.mono (show w.heap.size ≤ wr.heap.size by omega))) (Nat.le_refl _)).wide (Nat.le_refl _) (by have := h.size; have : wr.drew.heap.size = wr.heap.size := rfl; omega)) hcK)
        have hQ := Lib.hid (fun V (h : Below wr.drew.heap.size wr.drew V) => show V.cell? ⟨w.heap.size, 7, none⟩ = some (.slice (some ⟨gb, 0, none⟩) s.got.length c6) from ((hor.same hdr).same h).cell rfl)
        obtain ⟨A7, c7, rfl, -⟩ := hx.form
        have hzk : (0 : Nat) + k = k := Nat.zero_add k
        clear hx hor hdr hBw hBwr
        go_wp2
        refine Pu.regionM [(0, false), (1, false), (2, false), (3, false), (4, true), (5, false), (6, true)] (fun Wq => Below wr.drew.heap.size wr.drew Wq) hmx (by kernel_rfl) (by kernel_rfl) (by kernel_rfl) (Below.refl _ _) rfl ?_
        simp only [Pu.named, List.filterMap_cons, List.filterMap_nil, List.getElem?_toArray, List.getElem?_cons_succ, List.getElem?_cons_zero, Option.map_some]
        iterate 4 (
          apply Pu.WalkM.on (by rfl)
          · intro V1 h1
            have q7 := hQ.out V1 h1
            go_wp2_with fail
            refine ⟨rfl, ?_, rfl⟩
            try simp only [Act.put, List.setIfInBounds_toArray, List.set_cons_succ, List.set_cons_zero]
            rfl
          simp only [Act.put, List.setIfInBounds_toArray, List.set_cons_succ, List.set_cons_zero])
        refine Pu.WalkM.make (by rfl) ?_
        rintro W' rfl
        go_wp2_with (go_at_call 63; refine (cK.out _ (Below.refl _ _)).mono ?_; rintro e W6 ⟨⟨v6, rfl, hv6⟩, hb6⟩)
        obtain ⟨A8, c8, rfl, -⟩ := (ItemsAt.of_own hv6).form
        refine ⟨rfl, .slice A8 lk.length c8, _, (fun V => V = W6), ?_, rfl, (fun V h => by rw [h]; exact hb6), (.inr (fun _ h => h)), ?_⟩
        · simp only [Act.put, List.setIfInBounds_toArray, List.set_cons_succ, List.set_cons_zero]
        simp only [Act.put, List.setIfInBounds_toArray, List.set_cons_succ, List.set_cons_zero]
        iterate 1 (
          apply Pu.WalkM.on (by rfl)
          · intro V1 h1
            skip
            go_wp2_with fail
            refine ⟨rfl, ?_, rfl⟩
            try simp only [Act.put, List.setIfInBounds_toArray, List.set_cons_succ, List.set_cons_zero]
            rfl
          simp only [Act.put, List.setIfInBounds_toArray, List.set_cons_succ, List.set_cons_zero])
        have hb6' : Below wr.heap.size wr W6 := ((Below.refl wr.heap.size wr).drew).trans hb6
        obtain ⟨hst, hfz⟩ := own_place (row_later HC.out.row hb6') hlt
        have hCn := Lib.hid (cop_round HC.out hlt hgl hb6' (by rw [HGK.out]; exact ItemsAt.of_own hv6))
        clear hb6 hb6' hv6 cK hQ
        refine Pu.WalkM.make (by rfl) ?_
        rintro W rfl
        go_wp2_with fail
        refine ⟨rfl, undef, (fun _ => True), (fun V => V = _), rfl, rfl, (fun _ _ => trivial), (.inl (by kernel_rfl)), Pu.WalkM.nil ?_⟩
        rintro V rfl
        simp only [Act.put]
        generalize W.setCell ⟨gb, k, none⟩ (.slice A8 lk.length c8) = W7 at *
        go_wp2
        go_roundw
        case rel => exact ⟨k + 1, _, by omega, by go_num, hCn.out⟩
        case measure => simp [intOf]; omega
      · obtain rfl : k = s.got.length := by omega
        have hwr := HC.out.kept.size
        have hrl := fun g e => (HC.out.row.lt g e).1
        have hor := HC.out.kept.ob HO5.out ⟨by omega, fun e => by have := hrl _ e; omega⟩
        have hobr := HC.out.kept.ob HOB5.out ⟨by omega, fun e => by have := hrl _ e; omega⟩
        have HRL := Lib.hid hrl
        clear hrl
        go_wp2_with (first
          | (refine wpList_load_obg (by rfl) _ _ rfl rfl _ hor Tryz.underlying26 rfl (by kernel_rfl) ?_)
          | (refine wpList_store_ob (cells := sagaC s (.slice B1 s.want.length d1) (.slice A6 s.got.length c6) (.slice B2 s.pending.length d2)) rfl 26 (.tmp 2) (.tmp 32) rfl rfl rfl hobr rfl (by kernel_rfl) (by simp [sagaC, Value.oneCell']) ?_; intro W8 ho8 hg8))
        have h8 := hg8.size
        have hBf : Below w.heap.size w W8 := (HB5.out.trans (HC.out.kept.below fun i hi => ⟨by omega, fun e => by have := HRL.out _ e; omega⟩)).grown hg8 (by omega) (fun g e => by have e2 : w.heap.size + 1 = g := Option.some.inj e; omega)
        have hM := cop_end HC.out HW5'.out HP5.out HPG.out HGL5.out hg8 hz12 hz3 (show W3.heap.size ≤ W5.heap.size by omega) hz01 hsz3
        obtain ⟨p0, p1, p2, p3, p4, p5, p6, p7, p8, p9⟩ := ob_ten ho8
        refine bodyPost_ret (v := .agg (sagaC s (.slice B1 s.want.length d1) (.slice A6 s.got.length c6) (.slice B2 s.pending.length d2))) ?_ rfl ⟨⟨_, _, _, _, _, _, rfl, by omega, hM⟩, hBf⟩
        simp [results, Tryz.f24, go_sem, sagaC, p0, p1, p2, p3, p4, p5, p6, p7, p8, p9])
end Sa
end Go.Proofs.YthfpfomifebpbaaGreat

namespace Go.Proofs.YthfpfomifebpbaaGreat
open Go.RowKit
namespace Pt
open Pu
inductive Plan where
  | nil
  | look (i : Nat) (p : Plan)
  | make (i : Nat) (p : Plan)
  | fork (i : Nat) (p : Plan) (j : Nat) (q : Plan)
inductive PlanO where
  | nil
  | look (o : Oper) (p : PlanO)
  | make (o : Oper) (p : PlanO)
  | fork (o : Oper) (p : PlanO) (o' : Oper) (q : PlanO)
def rest : Plan → List Nat
  | .nil => []
  | .look i p => i :: rest p
  | .make i p => i :: rest p
  | .fork i p _ _ => i :: rest p
section
variable {P : Program} {ops : Array Oper} {Q : Exit → Act → World → Prop} {md : Region.Mode}
def named (ops : Array Oper) : Plan → PlanO
  | .nil => .nil
  | .look i p => match ops[i]? with | some o => .look o (named ops p) | none => .nil
  | .make i p => match ops[i]? with | some o => .make o (named ops p) | none => .nil
  | .fork i p j q => match ops[i]?, ops[j]? with | some o, some o' => .fork o (named ops p) o' (named ops q) | _, _ => .nil
/-- is this operation behind all others, by its own edges and those of the ones it is behind? -/
def reach2 (ops : Array Oper) (o : Oper) (j : Nat) : Bool := o.after.any fun e => Region.binds .any e && (e.on == j || match ops[e.on]? with | some q => q.after.any fun e' => Region.binds .any e' && e'.on == j | none => false)
def endsAll2 (ops : Array Oper) (o : Oper) : Bool := decide (((List.range ops.size).filter fun j => !reach2 ops o j).length ≤ 1)
theorem endsAll2_at {o : Oper} {i : Nat} {listed : Array Bool} (h : endsAll2 ops o = true) (hsz : listed.size = ops.size) (hi : i < ops.size) (hun : listed.getD i true = false)
    (hall : ∀ e ∈ o.after, Region.binds .any e = true → listed.getD e.on true = true) (hcl : ∀ k q, ops[k]? = some q → listed.getD k true = true → ∀ e ∈ q.after, Region.binds .any e = true → listed.getD e.on true = true) : ∀ j, listed.getD j true = false → j = i := by
  intro j hj
  have hjs : j < ops.size := by
    rcases Nat.lt_or_ge j ops.size with h | h
    · exact h
    · simp [show ¬ j < listed.size by omega] at hj
  have free : ∀ k, listed.getD k true = false → reach2 ops o k = false := fun k hk => by
    cases hx : reach2 ops o k with
    | false => rfl
    | true =>
      obtain ⟨e, he, hbe⟩ := Array.any_eq_true'.1 hx
      simp only [Bool.and_eq_true, Bool.or_eq_true, beq_iff_eq] at hbe
      have h1 := hall e he hbe.1
      rcases hbe.2 with h2 | h2
      · rw [h2, hk] at h1
        cases h1
      · cases hq : ops[e.on]? with
        | none => rw [hq] at h2; cases h2
        | some q =>
          rw [hq] at h2
          obtain ⟨e', he', hbe'⟩ := Array.any_eq_true'.1 h2
          simp only [Bool.and_eq_true, beq_iff_eq] at hbe'
          have h3 := hcl e.on q hq h1 e' he' hbe'.1
          rw [hbe'.2, hk] at h3
          cases h3
  unfold endsAll2 at h
  have hlen := of_decide_eq_true h
  have mi : i ∈ (List.range ops.size).filter fun j => !reach2 ops o j := List.mem_filter.2 ⟨List.mem_range.2 hi, by rw [free i hun]; rfl⟩
  have mj : j ∈ (List.range ops.size).filter fun j => !reach2 ops o j := List.mem_filter.2 ⟨List.mem_range.2 hjs, by rw [free j hj]; rfl⟩
  generalize ((List.range ops.size).filter fun j => !reach2 ops o j) = F at *
  match F, hlen with
  | [], _ => cases mi
  | [x], _ =>
    rw [List.mem_singleton] at mi mj
    rw [mi, mj]
  | _ :: _ :: _, h => simp at h
/-- what one making operation owes -/
def Owes (P : Program) (ops : Array Oper) (a : Act) (o : Oper) (B J : World → Prop) (S : Act → (World → Prop) → (World → Prop) → Prop) : Prop :=
  Region.wanted o (yielded ops a.tmps) = true ∧ ∀ w, J w → wpList P ops (fun e a' w' => e = .normal ∧ ∃ v B' J', a' = a.put o.dst v ∧ J' w' ∧ S (a.put o.dst v) B' J' ∧ (∀ w, J' w → B' w) ∧ (endsAll2 ops o = true ∨ ∀ w, B' w → B w)) [o] a w
def SeqT (P : Program) (ops : Array Oper) (Q : Exit → Act → World → Prop) : PlanO → Act → (World → Prop) → (World → Prop) → Prop
  | .nil, a, _, J => ∀ w, J w → Q .normal a w
  | .look o p, a, B, J =>
    if Region.wanted o (yielded ops a.tmps) = true then
      ∃ v, (∀ w, B w → wpList P ops (fun e a' w' => e = .normal ∧ a' = a.put o.dst v ∧ w' = w) [o] a w) ∧ SeqT P ops Q p (a.put o.dst v) B J
    else SeqT P ops Q p (a.put o.dst undef) B J
  | .make o p, a, B, J => Owes P ops a o B J (SeqT P ops Q p)
  | .fork o p o' q, a, B, J => Owes P ops a o B J (SeqT P ops Q p) ∧ Owes P ops a o' B J (SeqT P ops Q q)

def hd (ops : Array Oper) (i : Nat) (r : List Nat) : Bool :=
  (match ops[i]? with
    | none => false
    | some o =>
      (match o.op with | .select .. => false | .defer _ => false | _ => true) &&
      ((o.looksAt ops).all fun t => o.dst != some t && r.all fun p => match ops[p]? with | some q => q.dst != some t | none => false) &&
      (match o.dst with | none => true | some d => r.all fun p => match ops[p]? with | some q => q.dst != some d | none => false)) &&
  (r.all fun p => p != i)
def okT (md : Region.Mode) (ops : Array Oper) : Plan → Bool
  | .nil => true
  | .look i p => hd ops i (rest p) && okT md ops p
  | .make i p => hd ops i (rest p) && ((rest p).all fun k => bound md ops k (i :: rest p)) && okT md ops p
  | .fork i p j q => hd ops i (rest p) && hd ops j (rest q) && (rest p).contains j && (rest q).contains i && ((rest p).all fun k => k == j || (rest q).contains k) && ((rest q).all fun k => k == i || (rest p).contains k) &&
      ((rest p).all fun k => k == j || bound md ops k (i :: rest p)) && okT md ops p && okT md ops q
def whole (ops : Array Oper) (p : Plan) : Bool := (List.range ops.size).all fun i => (rest p).contains i

theorem hd_at {i : Nat} {r : List Nat} (h : hd ops i r = true) : ∃ o, ops[i]? = some o ∧ (match o.op with | .select .. => false | .defer _ => false | _ => true) = true ∧
    (∀ t ∈ o.looksAt ops, o.dst ≠ some t ∧ ∀ p ∈ r, ∀ q, ops[p]? = some q → q.dst ≠ some t) ∧ (∀ d, o.dst = some d → ∀ p ∈ r, ∀ q, ops[p]? = some q → q.dst ≠ some d) ∧ (∀ p ∈ r, p ≠ i) := by
  simp only [hd, Bool.and_eq_true] at h
  obtain ⟨h1, h2⟩ := h
  cases ho : ops[i]? with
  | none => rw [ho] at h1; cases h1
  | some o =>
    rw [ho] at h1
    simp only [Bool.and_eq_true] at h1
    obtain ⟨⟨g1, g2⟩, g3⟩ := h1
    refine ⟨o, rfl, g1, fun t ht => ?_, fun d hd p hp q hq => ?_, fun p hp => ?_⟩
    · have := List.all_eq_true.1 g2 t ht
      simp only [Bool.and_eq_true, bne_iff_ne, List.all_eq_true] at this
      refine ⟨this.1, fun p hp q hq => ?_⟩
      have h5 := this.2 p hp
      rw [hq] at h5
      simpa using h5
    · rw [hd] at g3
      have h5 := List.all_eq_true.1 g3 p hp
      rw [hq] at h5
      simpa using h5
    · have := List.all_eq_true.1 h2 p hp
      simpa using this

/-- what is known between two operations -/
structure St (P : Program) (ops : Array Oper) (Q : Exit → Act → World → Prop) (md : Region.Mode) (post : Plan) (pre : List Nat) (A : Act) (B J : World → Prop) : Prop where
  sub : ∀ w, J w → B w
  op : ∀ i ∈ pre, ∀ o, ops[i]? = some o → (match o.op with | .select .. => false | .defer _ => false | _ => true) = true
  fact : ∀ i ∈ pre, ∀ o, ops[i]? = some o → ∀ w, B w → wpList P ops (fun e a' w' => e = .normal ∧ a' = A ∧ w' = w) [o] A w
  looks : ∀ i ∈ pre, ∀ o, ops[i]? = some o → ∀ t ∈ o.looksAt ops, ∀ p ∈ rest post, ∀ q, ops[p]? = some q → q.dst ≠ some t
  dst : ∀ i ∈ pre, ∀ o, ops[i]? = some o → ∀ d, o.dst = some d → ∀ p ∈ rest post, ∀ q, ops[p]? = some q → q.dst ≠ some d
  ok : okT md ops post = true
  seq : SeqT P ops Q (named ops post) A B J

/-- one more operation is seen through -/
theorem St.step {i : Nat} {post p : Plan} {pre : List Nat} {A : Act} {B J B' J' : World → Prop} {o : Oper} {v : Value} (h : St P ops Q md post pre A B J) (ho : ops[i]? = some o) (hi : i ∈ rest post) (hsub : ∀ k ∈ rest p, k ∈ rest post) (hok : okT md ops p = true)
    (hB : ∀ w, B' w → B w) (hJ : ∀ w, J' w → B' w) (hs : SeqT P ops Q (named ops p) (A.put o.dst v) B' J') : St P ops Q md p pre (A.put o.dst v) B' J' := by
  refine ⟨hJ, h.op, fun k hk ok hok w hw => ?_, fun k hk ok hok t ht p hp => h.looks k hk ok hok t ht p (hsub p hp), fun k hk ok hok d hd p hp => h.dst k hk ok hok d hd p (hsub p hp), hok, hs⟩
  have hl : ∀ t ∈ ok.looksAt ops, o.dst ≠ some t := fun t ht => h.looks k hk ok hok t ht i hi o ho
  refine shift (h.op k hk ok hok) (put_eval A hl v) (put_wanted A hl v) rfl (fun u hu => ?_) (h.fact k hk ok hok w (hB w hw))
  rw [put_comm A (d := o.dst) (e := ok.dst) (fun t ht he => h.dst k hk ok hok t he i hi o ho ht) u v, hu]
theorem St.still {i : Nat} {p : Plan} {pre : List Nat} {A : Act} {B J : World → Prop} {o : Oper} {v : Value} (h : St P ops Q md (.look i p) pre A B J) (ho : ops[i]? = some o)
    (hv : ∀ w, B w → wpList P ops (fun e a' w' => e = .normal ∧ a' = A.put o.dst v ∧ w' = w) [o] A w)
    (hs : SeqT P ops Q (named ops p) (A.put o.dst v) B J) : St P ops Q md p (i :: pre) (A.put o.dst v) B J := by
  have hz := h.ok
  simp only [okT, Bool.and_eq_true] at hz
  have h1 := h.step ho (by simp [rest]) (p := p) (fun k hk => by simp [rest, hk]) hz.2 (fun _ h => h) h.sub hs
  obtain ⟨o', ho', g1, g2, g3, g4⟩ := hd_at hz.1
  clear hz
  rw [ho] at ho'
  cases ho'
  refine ⟨h.sub, fun k hk ok hok => ?_, fun k hk ok hok w hw => ?_, fun k hk ok hok t ht p hp q hq => ?_, fun k hk ok hok d hd p hp q hq => ?_, h1.ok, h1.seq⟩
  · rcases List.mem_cons.1 hk with rfl | hk
    · rw [ho] at hok; cases hok; exact g1
    · exact h1.op k hk ok hok
  · rcases List.mem_cons.1 hk with rfl | hk
    · rw [ho] at hok; cases hok
      have hl : ∀ t ∈ o.looksAt ops, o.dst ≠ some t := fun t ht => (g2 t ht).1
      refine shift g1 (put_eval A hl v) (put_wanted A hl v) (put_defers _ _ _) (fun u hu => ?_) (hv w hw)
      rw [put_put, hu]
    · exact h1.fact k hk ok hok w hw
  · rcases List.mem_cons.1 hk with rfl | hk
    · rw [ho] at hok; cases hok; exact (g2 t ht).2 p hp q hq
    · exact h1.looks k hk ok hok t ht p hp q hq
  · rcases List.mem_cons.1 hk with rfl | hk
    · rw [ho] at hok; cases hok; exact g3 d hd p hp q hq
    · exact h1.dst k hk ok hok d hd p hp q hq
def makes : Plan → Bool
  | .look .. => false
  | _ => true
theorem advance {a : Act} {listed : Array Bool} {B J : World → Prop} : ∀ (post : Plan) (pre : List Nat) (A : Act), St P ops Q md post pre A B J → Agree ops A listed a → (∀ p ∈ rest post, listed.getD p true = false) →
    ∃ post' pre' A', St P ops Q md post' pre' A' B J ∧ Agree ops A' listed a ∧ (∀ p ∈ rest post', listed.getD p true = false) ∧ (∀ j, (j ∈ pre ∨ j ∈ rest post) → j ∈ pre' ∨ j ∈ rest post') ∧ makes post' = true
  | .nil, pre, A, h, ha, hu => ⟨.nil, pre, A, h, ha, hu, fun _ h => h, rfl⟩
  | .make i p, pre, A, h, ha, hu => ⟨.make i p, pre, A, h, ha, hu, fun _ h => h, rfl⟩
  | .fork i p j q, pre, A, h, ha, hu => ⟨.fork i p j q, pre, A, h, ha, hu, fun _ h => h, rfl⟩
  | .look i r, pre, A, h, ha, hu => by
    have hok := h.ok
    simp only [okT, Bool.and_eq_true] at hok
    obtain ⟨o, ho, g1, g2, g3, g4⟩ := hd_at hok.1
    have hs := h.seq
    simp only [named, ho, SeqT] at hs
    have hi := hu i (by simp [rest])
    have key : ∀ v, (∀ w, B w → wpList P ops (fun e a' w' => e = .normal ∧ a' = A.put o.dst v ∧ w' = w) [o] A w) → SeqT P ops Q (named ops r) (A.put o.dst v) B J →
        ∃ post' pre' A', St P ops Q md post' pre' A' B J ∧ Agree ops A' listed a ∧ (∀ p ∈ rest post', listed.getD p true = false) ∧ (∀ j, (j ∈ pre ∨ j ∈ rest (.look i r)) → j ∈ pre' ∨ j ∈ rest post') ∧ makes post' = true := by
      intro v hv hs2
      obtain ⟨post', pre', A', k1, k2, k3, k4, k5⟩ := advance r (i :: pre) _ (h.still ho hv hs2) (ha.more ho hi) (fun p hp => hu p (by simp [rest, hp]))
      refine ⟨post', pre', A', k1, k2, k3, fun j hj => k4 j ?_, k5⟩
      rcases hj with hj | hj
      · exact .inl (List.mem_cons_of_mem _ hj)
      · rcases List.mem_cons.1 hj with rfl | hj
        · exact .inl (by simp)
        · exact .inr hj
    by_cases hw : Region.wanted o (yielded ops A.tmps) = true
    · rw [if_pos hw] at hs
      obtain ⟨v, hv, hs2⟩ := hs
      exact key v hv hs2
    · rw [if_neg hw] at hs
      have hoff : ∀ w, B w → wpList P ops (fun e a' w' => e = .normal ∧ a' = A.put o.dst undef ∧ w' = w) [o] A w := fun w _ => by
        unfold wpList
        rw [if_neg hw]
        exact ⟨rfl, rfl, rfl⟩
      exact key undef hoff hs
/-- behind a plan's looks: which operation may come, and the plan that then goes on -/
theorem next {post : Plan} {A : Act} {B J : World → Prop} {pre : List Nat} (h : St P ops Q md post pre A B J) (hm : makes post = true) {listed : Array Bool} (hu : ∀ p ∈ rest post, listed.getD p true = false) {i : Nat} {o : Oper} (ho : ops[i]? = some o) (hi : i ∈ rest post)
    (hall : ∀ e ∈ o.after, Region.binds md e = true → listed.getD e.on true = true) :
    ∃ p, Owes P ops A o B J (SeqT P ops Q (named ops p)) ∧ okT md ops p = true ∧ (∀ k ∈ rest p, k ∈ rest post ∧ k ≠ i) ∧ (∀ k ∈ rest post, k ≠ i → k ∈ rest p) := by
  have hno : ∀ l : List Nat, (∀ k ∈ l, k ∈ rest post) → bound md ops i l = false := fun l hl => by
    cases hb : bound md ops i l with
    | false => rfl
    | true =>
      unfold bound at hb
      rw [ho] at hb
      obtain ⟨e, he, hbe⟩ := Array.any_eq_true'.1 hb
      simp only [Bool.and_eq_true, List.contains_iff_mem] at hbe
      have h1 := hall e he hbe.1
      rw [hu e.on (hl e.on hbe.2)] at h1
      cases h1
  have hok := h.ok
  have hs := h.seq
  cases post with
  | nil => cases hi
  | look i p => cases hm
  | make c p =>
    simp only [okT, Bool.and_eq_true] at hok
    obtain ⟨⟨k1, k2⟩, k3⟩ := hok
    obtain ⟨oc, hoc, -, -, -, g4⟩ := hd_at k1
    have hci : i = c := by
      rcases List.mem_cons.1 hi with h | h
      · exact h
      · have := List.all_eq_true.1 k2 i h
        rw [hno (c :: rest p) (fun k hk => hk)] at this
        cases this
    subst hci
    rw [ho] at hoc
    cases hoc
    simp only [named, ho, SeqT] at hs
    exact ⟨p, hs, k3, fun k hk => ⟨List.mem_cons_of_mem _ hk, g4 k hk⟩, fun k hk hne => (List.mem_cons.1 hk).resolve_left hne⟩
  | fork c p d q =>
    simp only [okT, Bool.and_eq_true] at hok
    obtain ⟨⟨⟨⟨⟨⟨⟨⟨k1, k2⟩, k3⟩, k4⟩, k5⟩, k6⟩, k7⟩, k8⟩, k9⟩ := hok
    obtain ⟨oc, hoc, -, -, -, g4⟩ := hd_at k1
    obtain ⟨od, hod, -, -, -, g5⟩ := hd_at k2
    simp only [named, hoc, hod, SeqT] at hs
    rw [List.contains_iff_mem] at k3 k4
    have m1 : ∀ k ∈ rest p, k = d ∨ k ∈ rest q := fun k hk => by
      have := List.all_eq_true.1 k5 k hk
      simpa [List.contains_iff_mem] using this
    have m2 : ∀ k ∈ rest q, k = c ∨ k ∈ rest p := fun k hk => by
      have := List.all_eq_true.1 k6 k hk
      simpa [List.contains_iff_mem] using this
    have hcd : i = c ∨ i = d := by
      rcases List.mem_cons.1 hi with h | h
      · exact .inl h
      · have := List.all_eq_true.1 k7 i h
        rw [hno (c :: rest p) (fun k hk => hk)] at this
        simp only [Bool.or_false, beq_iff_eq] at this
        exact .inr this
    rcases hcd with rfl | rfl
    · rw [ho] at hoc
      cases hoc
      exact ⟨p, hs.1, k8, fun k hk => ⟨List.mem_cons_of_mem _ hk, g4 k hk⟩, fun k hk hne => (List.mem_cons.1 hk).resolve_left hne⟩
    · rw [ho] at hod
      cases hod
      refine ⟨q, hs.2, k9, fun k hk => ⟨?_, g5 k hk⟩, fun k hk hne => ?_⟩
      · rcases m2 k hk with rfl | h
        · simp [rest]
        · exact List.mem_cons_of_mem _ h
      · rcases List.mem_cons.1 hk with rfl | h
        · exact k4
        · exact (m1 k h).resolve_left hne
theorem run_made (hmd : md = .any) (hf : fine md ops = true) : ∀ (m : Nat) (left : List Nat) (listed : Array Bool) (a A : Act) (w : World) (B J : World → Prop) (post : Plan) (pre : List Nat), left.length = m → listed.size = ops.size → left.Nodup → (∀ j, j ∈ left ↔ listed.getD j true = false) →
    (∀ j, listed.getD j true = false → j ∈ pre ∨ j ∈ rest post) → (∀ p ∈ rest post, listed.getD p true = false) → (∀ k q, ops[k]? = some q → listed.getD k true = true → ∀ e ∈ q.after, Region.binds md e = true → listed.getD e.on true = true) → Agree ops A listed a → J w → St P ops Q md post pre A B J → wpAny P md ops Q m listed a w := by
  intro m
  induction m with
  | zero =>
    intro left listed a A w B J post pre hm hsz hnd hl hc hu hcl ha hJ hS
    have hn : left = [] := List.length_eq_zero_iff.1 hm
    subst hn
    obtain ⟨post', pre', A', k1, k2, k3, k4, k5⟩ := advance post pre A hS ha hu
    have hp : post' = .nil := by
      cases post' with
      | nil => rfl
      | look i p => cases k5
      | make i p => have := (hl i).2 (k3 i (by simp [rest])); cases this
      | fork i p j q => have := (hl i).2 (k3 i (by simp [rest])); cases this
    subst hp
    have ht : a = A' := by
      have ht : a.tmps = A'.tmps := by
        refine Array.ext k2.size fun t h1 h2 => ?_
        have := k2.at' t fun j o _ _ => by
          have := (hl j).2
          cases hx : listed.getD j true with
          | true => rfl
          | false => cases this hx
        simpa [h1, h2] using this
      have hd := k2.defers
      cases a; cases A'
      simp only at ht hd
      rw [ht, hd]
    subst ht
    refine ⟨?_, k1.seq w hJ⟩
    cases hr : Region.ready md ops listed with
    | nil => rfl
    | cons i rs =>
      have : i ∈ Region.ready md ops listed := by rw [hr]; simp
      have := (hl i).2 (mem_ready.1 this).1
      cases this
  | succ m ih =>
    intro left listed a A w B J post pre hm hsz hnd hl hc hu hcl ha hJ hS
    refine ⟨fun hr => ?_, fun i hi => ?_⟩
    · rw [ready_some hf left listed hsz hl hr] at hm; simp at hm
    obtain ⟨post', pre', A', k1, k2, k3, k4, k5⟩ := advance post pre A hS ha hu
    obtain ⟨hun, o, ho, hall⟩ := mem_ready.1 hi
    obtain ⟨f1, f2, f3, f4⟩ := fine_at hf ho
    have his : i < ops.size := (Array.getElem?_eq_some_iff.1 ho).1
    have hallD : ∀ e ∈ o.after, Region.binds md e = true → listed.getD e.on true = true := fun e he hb => by
      have h1 := hall e he hb
      rcases Nat.lt_or_ge e.on listed.size with hes | hes
      · simp [hes] at h1 ⊢
        exact h1
      · simp [show ¬ e.on < listed.size by omega]
    have hlook : ∀ t ∈ o.looksAt ops, ∀ j p, ops[j]? = some p → p.dst = some t → listed.getD j true = true := by
      intro t ht j p hj hp
      obtain ⟨e, he, hb, rfl⟩ := f4 t ht j p hj hp
      exact hallD e he hb
    have heval := k2.eval hlook
    have hwant := k2.wanted hlook
    have hmem : i ∈ left := (hl i).2 hun
    have hnext : ∀ (A1 : Act) (B1 J1 : World → Prop) (post1 : Plan) (pre1 : List Nat) (v : Value) (w' : World), A1.put o.dst v = A1 → Agree ops A1 listed a → J1 w' → St P ops Q md post1 pre1 A1 B1 J1 →
        (∀ j, listed.getD j true = false → j ≠ i → j ∈ pre1 ∨ j ∈ rest post1) → (∀ p ∈ rest post1, listed.getD p true = false ∧ p ≠ i) → wpAny P md ops Q m (listed.setIfInBounds i true) (a.put o.dst v) w' := by
      intro A1 B1 J1 post1 pre1 v w' hv hag hJ1 hS1 hc1 hu1
      refine ih (left.erase i) _ _ A1 w' B1 J1 post1 pre1 (by rw [List.length_erase_of_mem hmem, hm]; rfl) (by simpa using hsz) (hnd.erase i) (fun j => ?_) (fun j hj => ?_) (fun p hp => ?_) (fun k q hq hk e he hb => ?_) (hag.put ho hv) hJ1 hS1
      · rw [hnd.mem_erase_iff, hl j]
        by_cases e : i = j
        · subst e
          simp [show i < listed.size by omega]
        · rw [getD_set_ne true e]
          exact ⟨fun h => h.2, fun h => ⟨fun h' => e h'.symm, h⟩⟩
      · by_cases e : i = j
        · subst e
          simp [show i < listed.size by omega] at hj
        · rw [getD_set_ne true e] at hj
          exact hc1 j hj (fun h => e h.symm)
      · rw [getD_set_ne true (fun e => (hu1 p hp).2 e.symm)]
        exact (hu1 p hp).1
      · have hold : listed.getD e.on true = true := by
          by_cases ek : i = k
          · subst ek
            rw [ho] at hq
            cases hq
            exact hallD e he hb
          · rw [getD_set_ne true ek] at hk
            exact hcl k q hq hk e he hb
        by_cases ee : i = e.on
        · rw [← ee]
          simp [show i < listed.size by omega]
        · rw [getD_set_ne true ee]
          exact hold
    have hcase : i ∈ pre' ∨ i ∈ rest post' := k4 i (hc i hun)
    have hkeep : ∀ v w', A'.put o.dst v = A' → w' = w → i ∉ rest post' → wpAny P md ops Q m (listed.setIfInBounds i true) (a.put o.dst v) w' := fun v w' hv hw hn =>
      hnext A' B J post' pre' v w' hv k2 (hw ▸ hJ) k1 (fun j hj hne => k4 j (hc j hj)) (fun p hp => ⟨k3 p hp, fun e => hn (e ▸ hp)⟩)
    by_cases hpost : i ∈ rest post'
    · obtain ⟨p, ⟨hwc, howe⟩, hokp, hsub, hsup⟩ := next k1 k5 k3 ho hpost hallD
      have h := howe w hJ
      have hmake : ∀ u w', (∃ v B' J', A'.put o.dst u = A'.put o.dst v ∧ J' w' ∧ SeqT P ops Q (named ops p) (A'.put o.dst v) B' J' ∧ (∀ w, J' w → B' w) ∧ (endsAll2 ops o = true ∨ ∀ w, B' w → B w)) → wpAny P md ops Q m (listed.setIfInBounds i true) (a.put o.dst u) w' := by
        rintro u w' ⟨v, B', J', h1, h2, h3, h4, h5⟩
        rw [← h1] at h3
        rcases h5 with h5 | h5
        · have hend := endsAll2_at (listed := listed) h5 hsz his hun (fun e he hb => hallD e he (by rw [hmd]; exact hb)) (fun k q hq hk e he hb => hcl k q hq hk e he (by rw [hmd]; exact hb))
          exact hnext (A'.put o.dst u) B' J' p [] u w' (put_put _ _ _ _) (k2.more ho (k3 i hpost)) h2 ⟨h4, fun k hk => (by cases hk), fun k hk => (by cases hk), fun k hk => (by cases hk), fun k hk => (by cases hk), hokp, h3⟩ (fun j hj hne => (hne (hend j hj)).elim) (fun q hq => ⟨k3 q (hsub q hq).1, (hsub q hq).2⟩)
        refine hnext (A'.put o.dst u) B' J' p pre' u w' (put_put _ _ _ _) (k2.more ho (k3 i hpost)) h2 (k1.step ho hpost (fun k hk => (hsub k hk).1) hokp h5 h4 h3) (fun j hj hne => ?_) (fun q hq => ⟨k3 q (hsub q hq).1, (hsub q hq).2⟩)
        rcases k4 j (hc j hj) with h | h
        · exact .inl h
        · exact .inr (hsup j h hne)
      unfold wpOp
      simp only [ho]
      unfold wpList at h
      rw [hwant]
      simp only [hwc, if_true] at h ⊢
      rcases h with h | ⟨_, _, _, h, _⟩
      case inr => cases h
      refine .inl ?_
      unfold Oper.wp at h ⊢
      rw [execOp_congr o f1 heval]
      generalize (execOp A'.eval o).run P w = x at *
      cases x with
      | ok x w' =>
        cases x <;> simp only [Oper.upon] at h ⊢
        case value v => exact hmake v w' h.2
        case skip => exact hmake _ w' h.2
        case defer d =>
          obtain ⟨v, B', J', h1, _⟩ := h.2
          have := congrArg (fun b : Act => b.defers.length) h1
          simp only [put_defers] at this
          simp at this
        case enter f args =>
          refine Calls.mono h fun e w'' he => ?_
          cases e with
          | returned v => exact hmake v w'' he.2
          | panicked c => cases he.1
          | outgrown => obtain ⟨_, _, h, _⟩ := he; cases h
        case row row args => exact Rows.mono h fun v w'' he => hmake v w'' he.2
      | halt x w' =>
        cases x <;> simp only [Oper.upon] at h ⊢
        case panic u => cases h.1
    · have hpre : i ∈ pre' := hcase.resolve_right hpost
      have h := k1.fact i hpre o ho w (k1.sub w hJ)
      unfold wpOp
      simp only [ho]
      unfold wpList at h
      rw [hwant]
      split
      · rename_i hw
        simp only [hw, if_true] at h
        rcases h with h | ⟨_, _, _, h, _⟩
        case inr => cases h
        refine .inl ?_
        unfold Oper.wp at h ⊢
        rw [execOp_congr o f1 heval]
        generalize (execOp A'.eval o).run P w = r at *
        cases r with
        | ok x w' =>
          cases x <;> simp only [Oper.upon] at h ⊢
          case value v => exact hkeep v w' h.2.1 h.2.2 hpost
          case skip => exact hkeep _ w' h.2.1 h.2.2 hpost
          case defer d =>
            have := congrArg List.length (put_self h.2.1).1
            simp at this
          case enter f args =>
            refine Calls.mono h fun e w'' he => ?_
            cases e with
            | returned v => exact hkeep v w'' he.2.1 he.2.2 hpost
            | panicked c => cases he.1
            | outgrown => obtain ⟨_, _, h, _⟩ := he; cases h
          case row row args => exact Rows.mono h fun v w'' he => hkeep v w'' he.2.1 he.2.2 hpost
        | halt x w' =>
          cases x <;> simp only [Oper.upon] at h ⊢
          case panic u => cases h.1
      · rename_i hw
        simp only [hw] at h
        exact hkeep _ w h.2.1 rfl hpost

/-- the walk, behind a name that nothing unfolds -/
structure WalkT (P : Program) (ops : Array Oper) (Q : Exit → Act → World → Prop) (l : PlanO) (a : Act) (B J : World → Prop) : Prop where
  go : SeqT P ops Q l a B J
theorem WalkT.nil {a : Act} {B J : World → Prop} (h : ∀ w, J w → Q .normal a w) : WalkT P ops Q .nil a B J := ⟨h⟩
theorem WalkT.on {a : Act} {B J : World → Prop} {o : Oper} {r : PlanO} (hw : asks ops.toList o a.tmps.toList = true) {v : Value}
    (h1 : ∀ w, B w → wpList P ops (Lets (a.put o.dst v) w) [o] a w) (h : WalkT P ops Q r (a.put o.dst v) B J) : WalkT P ops Q (.look o r) a B J := by
  have hw' : Region.wanted o (yielded ops a.tmps) = true := (asks_eq _ _ _).trans hw
  refine ⟨?_⟩
  simp only [SeqT, hw', if_true]
  exact ⟨v, fun w hB => Lets.eq ▸ h1 w hB, h.go⟩
theorem WalkT.off {a : Act} {B J : World → Prop} {o : Oper} {r : PlanO} (hw : asks ops.toList o a.tmps.toList = false) (h : WalkT P ops Q r (a.put o.dst undef) B J) : WalkT P ops Q (.look o r) a B J := by
  have hw' : Region.wanted o (yielded ops a.tmps) = false := (asks_eq _ _ _).trans hw
  refine ⟨?_⟩
  simp only [SeqT, hw']
  exact h.go
structure MadeT (P : Program) (ops : Array Oper) (Q : Exit → Act → World → Prop) (r : PlanO) (a : Act) (o : Oper) (B : World → Prop) (e : Exit) (a' : Act) (w' : World) : Prop where
  e : e = .normal
  on : ∃ v B' J', a' = a.put o.dst v ∧ J' w' ∧ (∀ w, J' w → B' w) ∧ (endsAll2 ops o = true ∨ ∀ w, B' w → B w) ∧ WalkT P ops Q r (a.put o.dst v) B' J'
theorem owes {a : Act} {B J : World → Prop} {o : Oper} {r : PlanO} (hw : asks ops.toList o a.tmps.toList = true) (h1 : ∀ w, J w → wpList P ops (MadeT P ops Q r a o B) [o] a w) : Owes P ops a o B J (SeqT P ops Q r) := by
  have hw' : Region.wanted o (yielded ops a.tmps) = true := (asks_eq _ _ _).trans hw
  have he : MadeT P ops Q r a o B = fun e a' w' => e = .normal ∧ ∃ v B' J', a' = a.put o.dst v ∧ J' w' ∧ SeqT P ops Q r (a.put o.dst v) B' J' ∧ (∀ w, J' w → B' w) ∧ (endsAll2 ops o = true ∨ ∀ w, B' w → B w) := by
    funext e a' w'
    exact propext ⟨fun h => ⟨h.e, let ⟨v, B', J', h1, h2, h3, h4, h5⟩ := h.on; ⟨v, B', J', h1, h2, h5.go, h3, h4⟩⟩, fun h => ⟨h.1, let ⟨v, B', J', h1, h2, h3, h4, h5⟩ := h.2; ⟨v, B', J', h1, h2, h4, h5, ⟨h3⟩⟩⟩⟩
  exact ⟨hw', fun w hJ => he ▸ h1 w hJ⟩
theorem WalkT.make {a : Act} {B J : World → Prop} {o : Oper} {r : PlanO} (hw : asks ops.toList o a.tmps.toList = true) (h1 : ∀ w, J w → wpList P ops (MadeT P ops Q r a o B) [o] a w) : WalkT P ops Q (.make o r) a B J := ⟨owes hw h1⟩
theorem WalkT.fork {a : Act} {B J : World → Prop} {o o' : Oper} {r r' : PlanO} (hw : asks ops.toList o a.tmps.toList = true) (hw' : asks ops.toList o' a.tmps.toList = true) (h1 : ∀ w, J w → wpList P ops (MadeT P ops Q r a o B) [o] a w) (h2 : ∀ w, J w → wpList P ops (MadeT P ops Q r' a o' B) [o'] a w) :
    WalkT P ops Q (.fork o r o' r') a B J := ⟨owes hw h1, owes hw' h2⟩

theorem okT_lt : ∀ {p : Plan}, okT md ops p = true → ∀ k ∈ rest p, k < ops.size
  | .nil, _, k, hk => by cases hk
  | .look i p, h, k, hk => by
    simp only [okT, Bool.and_eq_true] at h
    rcases List.mem_cons.1 hk with rfl | hk
    · obtain ⟨o, ho, -⟩ := hd_at h.1
      exact (Array.getElem?_eq_some_iff.1 ho).1
    · exact okT_lt h.2 k hk
  | .make i p, h, k, hk => by
    simp only [okT, Bool.and_eq_true] at h
    rcases List.mem_cons.1 hk with rfl | hk
    · obtain ⟨o, ho, -⟩ := hd_at h.1.1
      exact (Array.getElem?_eq_some_iff.1 ho).1
    · exact okT_lt h.2 k hk
  | .fork i p j q, h, k, hk => by
    simp only [okT, Bool.and_eq_true] at h
    rcases List.mem_cons.1 hk with rfl | hk
    · obtain ⟨o, ho, -⟩ := hd_at h.1.1.1.1.1.1.1.1
      exact (Array.getElem?_eq_some_iff.1 ho).1
    · exact okT_lt h.1.2 k hk
theorem regionT {id : Nat} {a : Act} {w : World} (plan : Plan) (B : World → Prop) (hm : P.follows .mixedOrders = true) (hf : fine .any ops = true) (hok : okT .any ops plan = true) (hwh : whole ops plan = true) (hB : B w.drew)
    {l : PlanO} (hl : named ops plan = l) (hs : WalkT P ops Q l a B (fun W => W = w.drew)) : (Code.region id ops true).wp P Q a w := by
  subst hl
  refine wp_region_any hm ?_
  have h := run_made (md := .any) (P := P) (Q := Q) rfl hf ops.size (List.range ops.size) (Array.replicate ops.size false) a a w.drew B (fun W => W = w.drew) plan [] (by simp) (by simp) List.nodup_range (fun j => ?_) (fun j hj => ?_) (fun p hp => ?_) (fun k q hq hk => ?_) ⟨rfl, rfl, fun _ _ => rfl⟩ rfl
    ⟨fun W h => h ▸ hB, (fun i hi => nomatch hi), (fun i hi => nomatch hi), (fun i hi => nomatch hi), (fun i hi => nomatch hi), hok, hs.go⟩
  · exact h
  · rw [List.mem_range]
    by_cases h : j < ops.size
    · simp [h]
    · simp [h]
  · right
    have hjs : j < ops.size := by
      rcases Nat.lt_or_ge j ops.size with h | h
      · exact h
      · simp [h] at hj
    have := List.all_eq_true.1 hwh j (List.mem_range.2 hjs)
    simpa [List.contains_iff_mem] using this
  · simp [okT_lt hok p hp]
  · have := (Array.getElem?_eq_some_iff.1 hq).1
    simp [this] at hk
end
end Pt
end Go.Proofs.YthfpfomifebpbaaGreat

namespace Go.Proofs.YthfpfomifebpbaaGreat
open Go.RowKit Go.Maps
namespace Sa
open It
set_option linter.unusedSimpArgs false

def saga1 (order first regions : Int) (want : List It.Item) (waits : Bool) : Saga := ⟨order, first, regions, want, waits, 1, 1, List.replicate regions.toNat [], [first], false⟩
def beginU (s : Saga) : Except Int (Saga × List Step) := if mayS s then .ok (s, [⟨3, s.first, s.want, 0⟩]) else .error 1
def beginS (order first regions : Int) (want : List It.Item) (waits : Bool) : Except Int (Saga × List Step) :=
  if (visit first regions).length = 0 then .error 1 else beginU (saga1 order first regions want waits)
abbrev nilS : Value := .slice none 0 0
/-- a saga, steps and an error, by value -/
def Ret3 (lo : Nat) (w' : World) (e : Ending) : Except Int (Saga × List Step) → Prop
  | .error x => e = .returned (.tuple #[.agg (sagaC saga0 nilS nilS nilS), nilS, .int .i64 x])
  | .ok y => ∃ vw vg vp vl, e = .returned (.tuple #[.agg (sagaC y.1 vw vg vp), vl, .int .i64 0]) ∧ Parts w' lo w'.heap.size y.1 vw vg vp ∧ StepsAt w' lo w'.heap.size vl y.2

def Gives (lo : Nat) (W : World) (y : Saga) (v1 v2 v3 v4 : Value) (x : Int) : Except Int (Saga × List Step) → Prop
  | .error z => z = x ∧ v4 = nilS
  | .ok u => u.1 = y ∧ x = 0 ∧ Parts W lo W.heap.size u.1 v1 v2 v3 ∧ StepsAt W lo W.heap.size v4 u.2
theorem Ret3.form {lo : Nat} {W : World} {e : Ending} {r : Except Int (Saga × List Step)} (h : Ret3 lo W e r) :
    ∃ y A1 n1 c1 A2 n2 c2 A3 n3 c3 A4 n4 c4 x, e = .returned (.tuple #[.agg (sagaC y (.slice A1 n1 c1) (.slice A2 n2 c2) (.slice A3 n3 c3)), .slice A4 n4 c4, .int .i64 x]) ∧ Gives lo W y (.slice A1 n1 c1) (.slice A2 n2 c2) (.slice A3 n3 c3) (.slice A4 n4 c4) x r := by
  cases r with
  | error z => exact ⟨_, _, _, _, _, _, _, _, _, _, _, _, _, _, h, rfl, rfl⟩
  | ok u =>
    obtain ⟨vw, vg, vp, vl, rfl, hP, hS⟩ := h
    obtain ⟨A1, c1, rfl, -⟩ := hP.want.form
    obtain ⟨A2, c2, rfl, -⟩ := hP.got.form
    obtain ⟨A3, c3, rfl, -⟩ := hP.pend.form
    obtain ⟨A4, c4, rfl, -⟩ := hS.form
    exact ⟨_, _, _, _, _, _, _, _, _, _, _, _, _, _, rfl, rfl, rfl, hP, hS⟩
theorem GotAt.kept {Fr : Nat → Prop} {w w' : World} {lo B : Nat} {v : Value} {L : List (List It.Item)} (h : GotAt w lo B v L) (hk : Kept Fr w w') (hF : ∀ i, lo ≤ i → i < B → Fr i) : GotAt w' lo B v L := by
  obtain ⟨vs, h1, h2, h3⟩ := h
  exact ⟨vs, h1, hk.sl h2 hF, fun k hk' => hk.sl (h3 k hk') hF⟩
theorem Parts.kept {Fr : Nat → Prop} {w w' : World} {lo B : Nat} {s : Saga} {vw vg vp : Value} (h : Parts w lo B s vw vg vp) (hk : Kept Fr w w') (hF : ∀ i, lo ≤ i → i < B → Fr i) : Parts w' lo B s vw vg vp := ⟨hk.sl h.want hF, h.got.kept hk hF, hk.sl h.pend hF⟩
theorem Parts.wide {w : World} {lo lo' B B' : Nat} {s : Saga} {vw vg vp : Value} (h : Parts w lo B s vw vg vp) (hl : lo' ≤ lo) (hB : B ≤ B') : Parts w lo' B' s vw vg vp := ⟨h.want.wide hl hB, h.got.wide hl hB, h.pend.wide hl hB⟩
theorem StepsAt.kept {Fr : Nat → Prop} {w w' : World} {lo B : Nat} {v : Value} {l : List Step} (h : StepsAt w lo B v l) (hk : Kept Fr w w') (hF : ∀ i, lo ≤ i → i < B → Fr i) : StepsAt w' lo B v l := by
  obtain ⟨vs, h1, h2, h3⟩ := h
  exact ⟨vs, h1, hk.sl h2 hF, fun k hk' => hk.sl (h3 k hk') hF⟩
theorem begin_mem {W4 : World} {p : Nat} {s : Saga} {vw vg : Value} {lo : Nat} (n : Nat) (first : Int) (ho : Ob W4 p 26 (sagaC s vw nilS nilS)) (hw : ItemsAt W4 lo p vw s.want) (hlo : lo ≤ p) (hg : W4.ownsRow (p + 1) 22 1 vg n (List.replicate n nilS)) :
    (W4.alloc (.cells #[.int .i64 first] 3)).cell? ⟨p, 7, none⟩ = some nilS ∧ (W4.alloc (.cells #[.int .i64 first] 3)).frozen? ⟨p, 7, none⟩ = false ∧
    ((W4.alloc (.cells #[.int .i64 first] 3)).setCell ⟨p, 7, none⟩ vg).cell? ⟨p, 8, none⟩ = some nilS ∧ ((W4.alloc (.cells #[.int .i64 first] 3)).setCell ⟨p, 7, none⟩ vg).frozen? ⟨p, 8, none⟩ = false ∧
    ∃ W6, ((W4.alloc (.cells #[.int .i64 first] 3)).setCell ⟨p, 7, none⟩ vg).setCell ⟨p, 8, none⟩ (.slice (some ⟨W4.heap.size, 0, none⟩) 1 1) = W6 ∧
      Ob W6 p 26 (sagaC { s with got := List.replicate n [], pending := [first] } vw vg (.slice (some ⟨W4.heap.size, 0, none⟩) 1 1)) ∧
      Parts W6 lo W6.heap.size { s with got := List.replicate n [], pending := [first] } vw vg (.slice (some ⟨W4.heap.size, 0, none⟩) 1 1) ∧ Below p W4 W6 := by
  have hlt := ho.lt
  have hal := (Below.refl W4.heap.size W4).alloc (Nat.le_refl _) (.cells #[.int .i64 first] 3)
  have ho1 := ho.same hal
  have hw1 := hw.mono (hal.mono (by omega)) (Nat.le_refl _)
  have hg1 := row_later hg hal
  have hs1 : Sl (W4.alloc (.cells #[.int .i64 first] 3)) W4.heap.size (W4.heap.size + 1) 1 (.slice (some ⟨W4.heap.size, 0, none⟩) 1 1) 1 [.int .i64 first] := Sl.new W4 #[.int .i64 first] 3 (size := 1) (n := 1) rfl (by unfold maxLen; omega)
  have hz1 : (W4.alloc (.cells #[.int .i64 first] 3)).heap.size = W4.heap.size + 1 := World.size_alloc _ _
  have hb1 := hal.mono (show p ≤ W4.heap.size by omega)
  generalize W4.alloc (.cells #[.int .i64 first] 3) = W5 at *
  have ho2 := ho1.set 7 vg
  have ho3 := ho2.set 8 (.slice (some ⟨W4.heap.size, 0, none⟩) 1 1)
  have hk : Kept (fun i => i < W5.heap.size ∧ i ≠ p) W5 ((W5.setCell ⟨p, 7, none⟩ vg).setCell ⟨p, 8, none⟩ (.slice (some ⟨W4.heap.size, 0, none⟩) 1 1)) :=
    (Kept.of_grown (grownBy_set W5 p 7 vg) fun i hi => ⟨hi.1, fun e => hi.2 (by cases e; rfl)⟩).trans (Kept.of_grown (grownBy_set _ p 8 _) fun i hi => ⟨by rw [set_size]; exact hi.1, fun e => hi.2 (by cases e; rfl)⟩)
  refine ⟨ho1.cell rfl, ho1.frozen 7, ho2.cell rfl, ho2.frozen 8, _, rfl, ho3, ⟨?_, ?_, ?_⟩, hb1.trans (hk.below fun i hi => ⟨by omega, by omega⟩)⟩
  · exact (hk.sl hw1 fun i _ hb => ⟨by omega, by omega⟩).wide (Nat.le_refl _) (by rw [set_size, set_size]; omega)
  · have hg3 := own_kept hg1 hk fun g e => ⟨(hg1.lt g e).2, by have := (hg1.lt g e).1; omega⟩
    refine ⟨List.replicate n nilS, by simp, ?_, fun k hk' => ?_⟩
    · have := (Sl.of_own hg3).wide (show lo ≤ p + 1 by omega) (Nat.le_refl _)
      simpa using this
    · have hk' : k < n := by simpa using hk'
      rw [show (List.replicate n nilS).getD k (.slice none 0 0) = nilS by simp [List.getD, hk'], show (List.replicate n ([] : List It.Item)).getD k [] = [] by simp [List.getD, hk']]
      exact ItemsAt.nil _ _ _
  · exact (hk.sl hs1 fun i ha hb => ⟨by omega, by omega⟩).wide (by omega) (by rw [set_size, set_size]; omega)

set_option maxRecDepth 100000 in
set_option maxHeartbeats 4000000 in
theorem begin_calls (order first regions : Int) (want : List It.Item) (waits : Bool) (vw : Value) (w : World) (hw : ItemsAt w 0 w.heap.size vw want) (hF : Fits want) (hl : want.length ≤ 1000000) :
    Calls Tryz.prog 21 #[.int .i64 order, .int .i64 first, .int .i64 regions, vw, .bool waits] w fun e w' => Ret3 w.heap.size w' e (beginS order first regions want waits) ∧ Below w.heap.size w w' := by
  have hmx : Tryz.prog.follows .mixedOrders = true := by kernel_rfl
  obtain ⟨i0, hi0, hz0⟩ := Option.map_eq_some_iff.1 list_info
  simp only [Prod.mk.injEq] at hz0
  obtain ⟨hz0, hz1, hz2⟩ := hz0
  have HW := Lib.hid (fun W (hb : Below w.heap.size w W) => hw.mono hb hb.size)
  obtain ⟨A, c, rfl, -⟩ := hw.form
  clear hw
  have hal := (Below.refl w.heap.size w).alloc (Nat.le_refl _) (.cells #[.int .i64 0, .int .i64 0, .int .i64 0, .slice none 0 0, .bool false, .int .i64 0, .int .i64 0, .slice none 0 0, .slice none 0 0, .bool false] 26)
  have hoR := Ob.new w 26 #[.int .i64 0, .int .i64 0, .int .i64 0, .slice none 0 0, .bool false, .int .i64 0, .int .i64 0, .slice none 0 0, .slice none 0 0, .bool false]
  have hza : (w.alloc (.cells #[.int .i64 0, .int .i64 0, .int .i64 0, .slice none 0 0, .bool false, .int .i64 0, .int .i64 0, .slice none 0 0, .slice none 0 0, .bool false] 26)).heap.size = w.heap.size + 1 := World.size_alloc _ _
  have cV := Lib.hid (fun W => visit_calls first regions W)
  unfold beginS
  by_cases hv : (visit first regions).length = 0
  · rw [if_pos hv]
    rw [hv] at cV
    clear hv
    go_enter Tryz.func21, Tryz.ntmps21
    go_wp2_with fail
    refine (cV.out _).mono ?_
    rintro e W1 ⟨⟨v1, rfl, hv1⟩, hb1⟩
    obtain ⟨A1, c1, rfl, -⟩ := (Sl.of_own hv1).at_
    have hoR1 := hoR.same hb1
    have hB1 := hal.trans (hb1.mono hal.size)
    go_wp2_with (refine wpList_store_ob (cells := #[.int .i64 0, .int .i64 0, .int .i64 0, .slice none 0 0, .bool false, .int .i64 0, .int .i64 0, .slice none 0 0, .slice none 0 0, .bool false]) rfl 26 (.tmp 10) (.tmp 19) rfl rfl rfl hoR1 rfl (by kernel_rfl) (by simp [Value.oneCell']) ?_; intro W8 ho8 hg8)
    have hBf := hB1.grown hg8 (by have := hB1.size; omega) (fun g e => by have e2 : w.heap.size = g := Option.some.inj e; omega)
    obtain ⟨p0, p1, p2, p3, p4, p5, p6, p7, p8, p9⟩ := ob_ten ho8
    refine bodyPost_ret (v := .tuple #[.agg (sagaC saga0 nilS nilS nilS), nilS, .int .i64 1]) ?_ rfl ⟨rfl, hBf⟩
    simp [results, Tryz.f21, go_sem, sagaC, saga0, nilS, p0, p1, p2, p3, p4, p5, p6, p7, p8, p9]
  · rw [if_neg hv]
    have hd : decide (((visit first regions).length : Int) = 0) = false := decide_eq_false (by omega)
    have hd2 : (((visit first regions).length : Int) == 0) = false := by rw [beq_eq_false_iff_ne]; omega
    have hr : ¬ (regions < 1 ∨ 8 < regions ∨ first < 0 ∨ regions ≤ first) := fun hb => hv (by rw [visit_none hb]; rfl)
    obtain ⟨n, hn⟩ : ∃ n : Nat, regions = n := ⟨regions.toNat, by omega⟩
    have hn1 : 1 ≤ n ∧ n ≤ 8 := by omega
    unfold saga1
    rw [hn] at cV hd hd2 ⊢
    rw [Int.toNat_natCast]
    generalize hvs : visit first (n : Int) = vs at cV hd hd2
    clear hvs hv hr hn
    go_enter Tryz.func21, Tryz.ntmps21
    go_wp2_with fail
    refine (cV.out _).mono ?_
    rintro e W1 ⟨⟨v1, rfl, hv1⟩, hb1⟩
    obtain ⟨A1, c1, rfl, -⟩ := (Sl.of_own hv1).at_
    have hoR1 := hoR.same hb1
    have hB1 := hal.trans (hb1.mono hal.size)
    have cC := Lib.hid (clonei_calls want _ W1 (HW.out _ hB1) hl)
    have hs1 : w.heap.size + 1 ≤ W1.heap.size := hoR1.lt
    clear hv1 hoR hal hb1 cV
    go_wp2_with fail
    refine cC.out.mono ?_
    rintro e W2 ⟨⟨v2, rfl, hv2⟩, hb2⟩
    have hoR2 := hoR1.same hb2
    have hB2 := hB1.trans (hb2.mono hB1.size)
    obtain ⟨A2, c2, rfl, -⟩ := (ItemsAt.of_own hv2).form
    clear hoR1 hB1 cC hb2
    obtain ⟨s0, hs0⟩ : ∃ s0 : Saga, s0 = ⟨order, first, n, want, waits, 1, 1, [], [], false⟩ := ⟨_, rfl⟩
    have hC0 : sagaC s0 (.slice A2 want.length c2) nilS nilS = #[.int .i64 order, .int .i64 first, .int .i64 n, .slice A2 want.length c2, .bool waits, .int .i64 1, .int .i64 1, .slice none 0 0, .slice none 0 0, .bool false] := by rw [hs0]; rfl
    have hal3 := (Below.refl W2.heap.size W2).alloc (Nat.le_refl _) (.cells #[.int .i64 order, .int .i64 first, .int .i64 n, .slice A2 want.length c2, .bool waits, .int .i64 1, .int .i64 1, .slice none 0 0, .slice none 0 0, .bool false] 26)
    have ho3 := Ob.new W2 26 #[.int .i64 order, .int .i64 first, .int .i64 n, .slice A2 want.length c2, .bool waits, .int .i64 1, .int .i64 1, .slice none 0 0, .slice none 0 0, .bool false]
    have hv3 := row_later hv2 hal3
    have hoR3 := hoR2.same hal3
    have hlow := fun g e => (hv2.lt g e).2
    have hz3 : (W2.alloc (.cells #[.int .i64 order, .int .i64 first, .int .i64 n, .slice A2 want.length c2, .bool waits, .int .i64 1, .int .i64 1, .slice none 0 0, .slice none 0 0, .bool false] 26)).heap.size = W2.heap.size + 1 := World.size_alloc _ _
    have hB3 := hB2.trans (hal3.mono hB2.size)
    have hs2 := hoR2.lt
    obtain ⟨W4, hmk, hrow4, hgr4⟩ := run_make_full (P := Tryz.prog) (W2.alloc (.cells #[.int .i64 order, .int .i64 first, .int .i64 n, .slice A2 want.length c2, .bool waits, .int .i64 1, .int .i64 1, .slice none 0 0, .slice none 0 0, .bool false] 26)) (W2.heap.size + 1) 23 22 i0 _ 1 Tryz.underlying23 hi0 hz0 hz1 .i64 .i64 n (by rw [hz2]; omega) (by unfold maxLen; omega) (by omega)
    have hz34 := hgr4.size
    rw [hz3] at hmk hrow4 hz34
    have ho4 : Ob W4 W2.heap.size 26 (sagaC s0 (.slice A2 want.length c2) nilS nilS) := by rw [hC0]; exact ho3.kept hgr4 (by simp)
    have hrow4' : W4.ownsRow (W2.heap.size + 1) 22 1 (.slice (some ⟨W2.heap.size + 1, 0, none⟩) n n) n (List.replicate n nilS) := by
      rw [← toList_madeCells_one]
      have h := hrow4
      rw [Nat.mul_one] at h
      exact h
    have hv4 : ItemsAt W4 (w.heap.size + 1) W2.heap.size (.slice A2 want.length c2) s0.want := by
      rw [hs0]
      have h2 := hv3.kept hgr4 (by
        cases hq : Value.ownBlock (.slice A2 want.length c2) with
        | none => exact .inl rfl
        | some g => exact .inr (by simp))
      exact (own_sl h2 hlow).wide hs1 (Nat.le_refl _)
    obtain ⟨g7, f7, g8, f8, W6, hW6, ho6, hP6, hb6⟩ := begin_mem n first ho4 hv4 (by omega) hrow4'
    have hB4 : Below w.heap.size w W4 := hB3.grown hgr4 (by omega) (fun g e => by cases e)
    have hoR6 := (hoR3.kept hgr4 (by simp)).below hb6 (by omega)
    have hB6 := Lib.hid (hB4.trans (hb6.mono (by omega)))
    obtain ⟨S, hS⟩ : ∃ S : Saga, S = { s0 with got := List.replicate n [], pending := [first] } := ⟨_, rfl⟩
    rw [← hS] at ho6 hP6
    have hSP : (⟨order, first, n, want, waits, 1, 1, List.replicate n [], [first], false⟩ : Saga) = S := by rw [hS, hs0]
    have hFS : Fit S := by
      rw [hS, hs0]
      refine ⟨hF, fun l hl => ?_⟩
      obtain ⟨-, rfl⟩ := List.mem_replicate.1 hl
      intro x hx
      simp at hx
    have hSw : S.want = want ∧ S.first = first := by rw [hS, hs0]; exact ⟨rfl, rfl⟩
    have HSW := Lib.hid hSw
    have HSP := Lib.hid hSP
    have HO6 := Lib.hid ho6
    have cM := Lib.hid (sagamay_calls S _ _ _ W6 (hP6.wide (Nat.zero_le _) (Nat.le_refl _)) hFS)
    have HP6 := Lib.hid hP6
    have HOR6 := Lib.hid hoR6
    have hs6 := hB6.out.size
    clear hal3 ho3 hv3 hoR3 hlow hB3 hrow4 ho4 hrow4' hv4 hB4 hb6 hs0 ho6 hP6 hoR6 hC0 hv2 hgr4 hSP hSw hFS hS
    go_wp2_with (refine wpList_load_obg (by rfl) _ _ rfl rfl _ HO6.out Tryz.underlying26 rfl (by kernel_rfl) ?_)
    refine cM.out.mono ?_
    rintro e W7 ⟨rfl, hb7⟩
    have hoR7 := HOR6.out.same hb7
    have hB7 := hB6.out.trans (hb7.mono hs6)
    have hs7 := hoR7.lt
    generalize hm : mayS S = m
    have HM := Lib.hid hm
    clear hm
    cases m with
    | false =>
      go_wp2_with (refine wpList_store_ob (cells := #[.int .i64 0, .int .i64 0, .int .i64 0, .slice none 0 0, .bool false, .int .i64 0, .int .i64 0, .slice none 0 0, .slice none 0 0, .bool false]) rfl 26 (.tmp 10) (.tmp 36) rfl rfl rfl hoR7 rfl (by kernel_rfl) (by simp [Value.oneCell']) ?_; intro W8 ho8 hg8)
      have hBf := hB7.grown hg8 (by omega) (fun g e => by have e2 : w.heap.size = g := Option.some.inj e; omega)
      obtain ⟨p0, p1, p2, p3, p4, p5, p6, p7, p8, p9⟩ := ob_ten ho8
      refine bodyPost_ret (v := .tuple #[.agg (sagaC saga0 nilS nilS nilS), nilS, .int .i64 1]) ?_ rfl ⟨by rw [HSP.out]; unfold beginU; rw [HM.out]; exact rfl, hBf⟩
      simp [results, Tryz.f21, go_sem, sagaC, saga0, nilS, p0, p1, p2, p3, p4, p5, p6, p7, p8, p9]
    | true =>
      have hob70 := HO6.out.same hb7
      have hob7 : Ob W7.drew W2.heap.size 26 (sagaC S (.slice A2 want.length c2) (.slice (some ⟨W2.heap.size + 1, 0, none⟩) n n) (.slice (some ⟨W4.heap.size, 0, none⟩) 1 1)) := hob70
      clear hob70
      have hP7 : Parts W7.drew _ W7.drew.heap.size S _ _ _ := (HP6.out.mono hb7 hb7.size).mono ((Below.refl W7.heap.size W7).drew) (Nat.le_refl _)
      have hoR7 : Ob W7.drew w.heap.size 26 _ := hoR7
      have hB7 := hB7.drew
      have cK := Lib.hid (clonei_calls want _ W7.drew (HW.out _ hB7) hl)
      have hlt7 := hob7.lt
      clear HO6 HP6 HOR6 cM hb7
      go_wp2
      refine Pt.regionT (.look 0 (.look 1 (.look 2 (.make 3 (.look 4 (.fork 5 (.make 6 (.look 7 (.look 8 .nil))) 6 (.make 5 (.look 7 (.look 8 .nil))))))))) (fun V => Ob V W2.heap.size 26 (sagaC S (.slice A2 want.length c2) (.slice (some ⟨W2.heap.size + 1, 0, none⟩) n n) (.slice (some ⟨W4.heap.size, 0, none⟩) 1 1))) hmx (by kernel_rfl) (by kernel_rfl) (by kernel_rfl) hob7 rfl ?_
      simp only [Pt.named, List.getElem?_toArray, List.getElem?_cons_succ, List.getElem?_cons_zero, Option.map_some]
      iterate 3 (
        apply Pt.WalkT.on (by rfl)
        · intro V hV
          go_wp2_with (refine wpList_load_obg (by rfl) _ _ rfl rfl _ hV Tryz.underlying26 rfl (by kernel_rfl) ?_)
          refine ⟨rfl, ?_, rfl⟩
          try simp only [Act.put, List.setIfInBounds_toArray, List.set_cons_succ, List.set_cons_zero]
          rfl
        simp only [Act.put, List.setIfInBounds_toArray, List.set_cons_succ, List.set_cons_zero])
      refine Pt.WalkT.make (by rfl) ?_
      rintro W rfl
      go_wp2_with (go_at_call 63; refine cK.out.mono ?_; rintro e W8 ⟨⟨v8, rfl, hv8⟩, hb8⟩)
      have hob8 := hob7.same hb8
      have hP8 := hP7.mono hb8 hb8.size
      have hoR8 := hoR7.same hb8
      have hB8 := hB7.trans (hb8.mono hB7.size)
      have hs7' : w.heap.size + 1 ≤ W7.drew.heap.size := hs7
      have hs8 := hb8.size
      have hv8 := (ItemsAt.of_own hv8).wide hs7' (Nat.le_refl _)
      obtain ⟨A8, c8, rfl, -⟩ := hv8.form
      clear cK
      refine ⟨rfl, .slice A8 want.length c8, _, (fun V => V = W8), ?_, rfl, (fun V h => by rw [h]; exact hob8), (.inr (fun _ h => h)), ?_⟩
      · simp only [Act.put, List.setIfInBounds_toArray, List.set_cons_succ, List.set_cons_zero]
      simp only [Act.put, List.setIfInBounds_toArray, List.set_cons_succ, List.set_cons_zero]
      iterate 1 (
        apply Pt.WalkT.on (by rfl)
        · intro V hV
          go_wp2_with fail
          refine ⟨rfl, ?_, rfl⟩
          try simp only [Act.put, List.setIfInBounds_toArray, List.set_cons_succ, List.set_cons_zero]
          rfl
        simp only [Act.put, List.setIfInBounds_toArray, List.set_cons_succ, List.set_cons_zero])
      refine Pt.WalkT.fork (by rfl) (by rfl) ?_ ?_
      · intro W hWJ
        cases hWJ.symm
        have hst := StepsAt.one' (w := W8) (x := ⟨3, first, want, 0⟩) hv8 (Nat.le_refl _) (by omega)
        have hal9 := (Below.refl W8.heap.size W8).alloc (Nat.le_refl _) (.cells #[.int .i64 3, .int .i64 first, .slice A8 want.length c8, .int .i64 0] 52)
        have hob9 := hob8.same hal9
        have hP9 := hP8.mono hal9 hal9.size
        have hz9 : (W8.alloc (.cells #[.int .i64 3, .int .i64 first, .slice A8 want.length c8, .int .i64 0] 52)).heap.size = W8.heap.size + 1 := World.size_alloc _ _
        have hoR9 := hoR8.same hal9
        have hB9 := hB8.trans (hal9.mono hB8.size)
        go_wp2_with fail
        refine ⟨rfl, .slice (some ⟨W8.heap.size, 0, none⟩) 1 1, _, (fun V => V = _), ?_, rfl, (fun V h => by rw [h]; exact hob9), (.inr (fun _ h => h)), ?_⟩
        · simp only [Act.put, List.setIfInBounds_toArray, List.set_cons_succ, List.set_cons_zero]
        simp only [Act.put, List.setIfInBounds_toArray, List.set_cons_succ, List.set_cons_zero]
        refine Pt.WalkT.make (by rfl) ?_
        intro W hWJ
        subst hWJ
        go_wp2_with (refine wpList_store_ob (cells := (sagaC S (.slice A2 want.length c2) (.slice (some ⟨W2.heap.size + 1, 0, none⟩) n n) (.slice (some ⟨W4.heap.size, 0, none⟩) 1 1))) rfl 26 (.tmp 10) (.tmp 37) rfl rfl rfl hoR9 rfl (by kernel_rfl) (by simp [sagaC, Value.oneCell']) ?_; intro W10 ho10 hg10)
        have hk10 := Kept.of_grown (Fr := fun i => i < (W8.alloc (.cells #[.int .i64 3, .int .i64 first, .slice A8 want.length c8, .int .i64 0] 52)).heap.size ∧ i ≠ w.heap.size) hg10 fun i hi => ⟨hi.1, fun e => hi.2 (by cases e; rfl)⟩
        have hs10 := hg10.size
        have hob10 := hob9.kept hg10 (by simp; omega)
        have hP10 := (hP9.kept hk10 fun i ha hb => ⟨hb, by omega⟩).wide (show w.heap.size ≤ w.heap.size + 1 by omega) hs10
        have hst10 := (hst.kept hk10 fun i ha hb => ⟨by omega, by omega⟩).wide (show w.heap.size ≤ w.heap.size + 1 by omega) (show W8.heap.size + 1 ≤ W10.heap.size by omega)
        have hB10 := hB9.grown hg10 (by omega) (fun g e => by have e2 : w.heap.size = g := Option.some.inj e; omega)
        refine ⟨rfl, undef, _, (fun V => V = W10), ?_, rfl, (fun V h => by rw [h]; exact hob10), (.inr (fun _ h => h)), ?_⟩
        · simp only [Act.put, List.setIfInBounds_toArray, List.set_cons_succ, List.set_cons_zero]
        simp only [Act.put, List.setIfInBounds_toArray, List.set_cons_succ, List.set_cons_zero]
        iterate 2 (
          apply Pt.WalkT.on (by rfl)
          · intro V hV
            go_wp2_with fail
            refine ⟨rfl, ?_, rfl⟩
            try simp only [Act.put, List.setIfInBounds_toArray, List.set_cons_succ, List.set_cons_zero]
            rfl
          simp only [Act.put, List.setIfInBounds_toArray, List.set_cons_succ, List.set_cons_zero])
        refine Pt.WalkT.nil ?_
        rintro V hVJ
        cases hVJ.symm
        obtain ⟨p0, p1, p2, p3, p4, p5, p6, p7, p8, p9⟩ := ob_ten ho10
        obtain ⟨es, ef⟩ := HSW.out
        go_wp2
        refine bodyPost_ret (v := .tuple #[.agg (sagaC S (.slice A2 want.length c2) (.slice (some ⟨W2.heap.size + 1, 0, none⟩) n n) (.slice (some ⟨W4.heap.size, 0, none⟩) 1 1)), .slice (some ⟨W8.heap.size, 0, none⟩) 1 1, .int .i64 0]) ?_ rfl ⟨by rw [HSP.out]; unfold beginU; rw [HM.out, es, ef]; exact ⟨_, _, _, _, rfl, hP10, hst10⟩, hB10⟩
        simp [results, Tryz.f21, go_sem, sagaC, p0, p1, p2, p3, p4, p5, p6, p7, p8, p9]
      · intro W hWJ
        cases hWJ.symm
        go_wp2_with (refine wpList_store_ob (cells := (sagaC S (.slice A2 want.length c2) (.slice (some ⟨W2.heap.size + 1, 0, none⟩) n n) (.slice (some ⟨W4.heap.size, 0, none⟩) 1 1))) rfl 26 (.tmp 10) (.tmp 37) rfl rfl rfl hoR8 rfl (by kernel_rfl) (by simp [sagaC, Value.oneCell']) ?_; intro W9 ho9 hg9)
        have hk9 := Kept.of_grown (Fr := fun i => i < W8.heap.size ∧ i ≠ w.heap.size) hg9 fun i hi => ⟨hi.1, fun e => hi.2 (by cases e; rfl)⟩
        have hs9 := hg9.size
        have hob9 := hob8.kept hg9 (by simp; omega)
        have hP9 := (hP8.kept hk9 fun i ha hb => ⟨hb, by omega⟩).wide (show w.heap.size ≤ w.heap.size + 1 by omega) hs9
        have hv9 := ItemsAt.wide (hk9.sl hv8 fun i ha hb => ⟨hb, by omega⟩) (show w.heap.size ≤ w.heap.size + 1 by omega) hs9
        have hB9 := hB8.grown hg9 (by omega) (fun g e => by have e2 : w.heap.size = g := Option.some.inj e; omega)
        refine ⟨rfl, undef, _, (fun V => V = W9), ?_, rfl, (fun V h => by rw [h]; exact hob9), (.inr (fun _ h => h)), ?_⟩
        · simp only [Act.put, List.setIfInBounds_toArray, List.set_cons_succ, List.set_cons_zero]
        simp only [Act.put, List.setIfInBounds_toArray, List.set_cons_succ, List.set_cons_zero]
        refine Pt.WalkT.make (by rfl) ?_
        intro W hWJ
        cases hWJ.symm
        have hst0 := StepsAt.one' (w := W9) (x := ⟨3, first, want, 0⟩) hv9 (Nat.le_refl _) (by omega)
        have hst := hst0.wide (Nat.le_refl _) (show W9.heap.size + 1 ≤ (W9.alloc (.cells #[.int .i64 3, .int .i64 first, .slice A8 want.length c8, .int .i64 0] 52)).heap.size by rw [World.size_alloc]; omega)
        clear hst0
        have hal10 := (Below.refl W9.heap.size W9).alloc (Nat.le_refl _) (.cells #[.int .i64 3, .int .i64 first, .slice A8 want.length c8, .int .i64 0] 52)
        have hob10 := hob9.same hal10
        have hP10 := hP9.mono hal10 hal10.size
        have hB10 := hB9.trans (hal10.mono hB9.size)
        have ho10 := ho9.same hal10
        go_wp2_with fail
        refine ⟨rfl, .slice (some ⟨W9.heap.size, 0, none⟩) 1 1, _, (fun V => V = _), ?_, rfl, (fun V h => by rw [h]; exact hob10), (.inr (fun _ h => h)), ?_⟩
        · simp only [Act.put, List.setIfInBounds_toArray, List.set_cons_succ, List.set_cons_zero]
        simp only [Act.put, List.setIfInBounds_toArray, List.set_cons_succ, List.set_cons_zero]
        iterate 2 (
          apply Pt.WalkT.on (by rfl)
          · intro V hV
            go_wp2_with fail
            refine ⟨rfl, ?_, rfl⟩
            try simp only [Act.put, List.setIfInBounds_toArray, List.set_cons_succ, List.set_cons_zero]
            rfl
          simp only [Act.put, List.setIfInBounds_toArray, List.set_cons_succ, List.set_cons_zero])
        refine Pt.WalkT.nil ?_
        rintro V hVJ
        cases hVJ.symm
        obtain ⟨p0, p1, p2, p3, p4, p5, p6, p7, p8, p9⟩ := ob_ten ho10
        obtain ⟨es, ef⟩ := HSW.out
        go_wp2
        refine bodyPost_ret (v := .tuple #[.agg (sagaC S (.slice A2 want.length c2) (.slice (some ⟨W2.heap.size + 1, 0, none⟩) n n) (.slice (some ⟨W4.heap.size, 0, none⟩) 1 1)), .slice (some ⟨W9.heap.size, 0, none⟩) 1 1, .int .i64 0]) ?_ rfl ⟨by rw [HSP.out]; unfold beginU; rw [HM.out, es, ef]; exact ⟨_, _, _, _, rfl, hP10, hst⟩, hB10⟩
        simp [results, Tryz.f21, go_sem, sagaC, p0, p1, p2, p3, p4, p5, p6, p7, p8, p9]
end Sa
end Go.Proofs.YthfpfomifebpbaaGreat
