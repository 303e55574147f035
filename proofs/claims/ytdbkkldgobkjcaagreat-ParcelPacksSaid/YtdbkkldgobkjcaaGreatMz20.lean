/-
  parcels: the document's Pack.
  parcels: may, read.
  parcels: read.
  parcels: Unpack.
  arguments opened: an op of the laws of parcels; a slice of them.
  parcels: the law's do.
-/
import Derived.Test.YtdbkkldgobkjcaaGreatMz19
import Derived.Test.YtdbkkldgobkjcaaGreatMz6
import Derived.Test.YtdbkkldgobkjcaaGreatMz14
import Derived.Test.YtdbkkldgobkjcaaGreatMz9

set_option linter.unusedVariables false
set_option linter.unusedSimpArgs false
namespace Go.Proofs.YtdbkkldgobkjcaaGreat
open Go.RowKit Go.Maps
namespace Pc
open It Mv Ce

theorem grown_items {w w' : World} {bm hi : Nat} {v : Value} {l : List It.Item} (h : ItemsAt w 0 hi v l) (hg : w.grownBy w' (some bm)) (hb : hi ≤ bm) (hh : hi ≤ w.heap.size) : ItemsAt w' 0 w'.heap.size v l :=
  (ItemsAt.wide (Sl.grown h hg hh (fun k e => .inr (by cases e; exact hb))) (Nat.zero_le _) (Nat.le_trans hh hg.size))
theorem rowC_from (p : DR) (j : Nat) (hj : j < 8) : (rowC p).toArray[4 + j]? = some (.bool (isIn p.d j)) := by
  match j, hj with
  | 0, _ => rfl
  | 1, _ => rfl
  | 2, _ => rfl
  | 3, _ => rfl
  | 4, _ => rfl
  | 5, _ => rfl
  | 6, _ => rfl
  | 7, _ => rfl

set_option maxRecDepth 100000 in
set_option maxHeartbeats 16000000 in
theorem refpackP_calls (xb : Nat) (es : List DR) (A : Option Addr) (c : Nat) (w : World) (hx : Ob w xb 28 #[.slice A es.length c]) (hS : Sl w 0 w.heap.size 12 (.slice A es.length c) es.length (rowCs es))
    (hnest : ∀ p ∈ es, ItemsAt w 0 w.heap.size p.v1 p.d.wa ∧ ItemsAt w 0 w.heap.size p.v2 p.d.sh ∧ ItemsAt w 0 w.heap.size p.v3 p.d.ba) (hok : ∀ p ∈ es, OkE p.d) (hlen : es.length ≤ 120) :
    Calls Tryz.prog 40 #[.pointer (some ⟨xb, 0, none⟩)] w fun e w' => (∃ u, e = .returned u ∧ BytesAt w' 0 w'.heap.size u (packR (es.map (·.d)))) ∧ Below w.heap.size w w' := by
  have hxl := hx.lt
  have hal := (Below.refl w.heap.size w).alloc (Nat.le_refl _) (.cells #[.slice none 0 0, .bool false] 126)
  have hR0 := Rm.new w
  have hx1 := hx.alloc (.cells #[.slice none 0 0, .bool false] 126)
  have hs1 : (w.alloc (.cells #[.slice none 0 0, .bool false] 126)).heap.size = w.heap.size + 1 := by simp
  have HS1 := Lib.hid (Sl.below hS hal)
  have HN1 := Lib.hid (fun p (hp : p ∈ es) => show ItemsAt _ 0 w.heap.size p.v1 p.d.wa ∧ ItemsAt _ 0 w.heap.size p.v2 p.d.sh ∧ ItemsAt _ 0 w.heap.size p.v3 p.d.ba from ⟨(hnest p hp).1.below hal, (hnest p hp).2.1.below hal, (hnest p hp).2.2.below hal⟩)
  obtain ⟨A', c', e, hc1, hc2, -⟩ := hS.at_
  cases e
  unfold maxLen at hc2
  have cN := refmnum_calls es.length w.heap.size ([], false) _ hR0 (by omega) (by omega)
  rw [mPut_short (by have := (numC_len es.length).2; simp; omega), List.nil_append] at cN
  have CN := Lib.hid cN
  have HE := Lib.hid (show packR (es.map (·.d)) = numC es.length ++ cellsR ((es.take es.length).map (·.d)) by unfold packR; rw [List.take_length, List.length_map])
  have q0 := hx1.cell (j := 0) (v := .slice A es.length c) rfl
  have hmc := fun k (hk : k ≤ es.length) => cellsR_len (ds := (es.take k).map (·.d)) fun d hd => by
    obtain ⟨p, hp, rfl⟩ := List.mem_map.1 hd
    exact hok p (List.mem_of_mem_take hp)
  have HMC := Lib.hid hmc
  have HOK := Lib.hid hok
  have HSn := Lib.hid (fun (k : Nat) (h : k < es.length) => show cellsR ((es.take (k + 1)).map (·.d)) = cellsR ((es.take k).map (·.d)) ++ encR es[k].d by rw [List.take_succ_eq_append_getElem h, List.map_append, List.map_cons, List.map_nil, cellsR_snoc])
  generalize packR (es.map (·.d)) = C at *
  clear cN hR0 hnest hx hS hmc hok
  go_enter Tryz.func40, Tryz.ntmps40
  go_wp2_with fail
  refine CN.out.mono ?_
  rintro e W0 ⟨rfl, hM0, hg0⟩
  generalize w.alloc (.cells #[.slice none 0 0, .bool false] 126) = w1 at *
  clear q0
  go_wp2
  go_loopw [4] (fun i wr => ∃ k : Nat, k ≤ es.length ∧ i = .int .i64 k ∧ Rm wr w.heap.size (numC es.length ++ cellsR ((es.take k).map (·.d)), false) ∧ w1.grownBy wr (some w.heap.size)) (fun i _ => es.length - (intOf i).toNat)
  case atStart => exact ⟨0, by omega, rfl, by simpa [cellsR] using hM0, hg0⟩
  case round =>
    obtain ⟨k, hk, rfl, hM, hg⟩ := hrel
    clear hM0
    have hxr := hx1.kept hg (fun e => by have := Option.some.inj e; omega)
    have q1 := hxr.cell (j := 0) (v := .slice A es.length c) rfl
    by_cases hlt : k < es.length
    · have hd : decide ((k : Int) < (es.length : Int)) = true := by simp; omega
      have hSr := Sl.grown HS1.out hg (by omega) (fun j e => .inr (by cases e; exact Nat.le_refl _))
      obtain ⟨b, o, rfl, -, -, hcs⟩ := docP_cell hSr hlt
      have c0 := hcs 0 _ rfl
      have c1 := hcs 1 _ rfl
      have c2 := hcs 2 _ rfl
      have c3 := hcs 3 _ rfl
      have c4 := hcs 4 _ rfl
      have c5 := hcs 5 _ rfl
      have c6 := hcs 6 _ rfl
      have c7 := hcs 7 _ rfl
      have c8 := hcs 8 _ rfl
      have c9 := hcs 9 _ rfl
      have c10 := hcs 10 _ rfl
      have c11 := hcs 11 _ rfl
      simp only [Nat.add_zero] at c0
      clear hcs
      have hokk := HOK.out _ (List.getElem_mem hlt)
      have hIk := HN1.out _ (List.getElem_mem hlt)
      have HSk := Lib.hid (HSn.out k hlt)
      have hcl := HMC.out k hk
      rw [List.length_map, List.length_take] at hcl
      have HRC := Lib.hid (rowC_from es[k])
      have HRCd := Lib.hid (show (rowC es[k]).toArray = #[.int .i64 es[k].d.od, es[k].v1, es[k].v2, es[k].v3, .bool (isIn es[k].d 0), .bool (isIn es[k].d 1), .bool (isIn es[k].d 2), .bool (isIn es[k].d 3), .bool (isIn es[k].d 4), .bool (isIn es[k].d 5), .bool (isIn es[k].d 6), .bool (isIn es[k].d 7)] from rfl)
      generalize es[k] = p at *
      obtain ⟨d, lv1, lv2, lv3⟩ := p
      dsimp only at hokk hIk c0 c1 c2 c3 c4 c5 c6 c7 c8 c9 c10 c11 HSk HRC HRCd
      obtain ⟨i1, i2, i3⟩ := hIk
      obtain ⟨A1, l1, rfl, -⟩ := i1.form
      obtain ⟨A2, l2, rfl, -⟩ := i2.form
      obtain ⟨A3, l3, rfl, -⟩ := i3.form
      have hel := encR_len hokk
      have hnl := (numC_len es.length).2
      have HP := Lib.hid (show mPutR (numC es.length ++ cellsR ((es.take k).map (·.d)), false) d = (numC es.length ++ cellsR ((es.take (k + 1)).map (·.d)), false) by
        rw [mPutR_short (by rw [List.length_append]; omega), HSk.out, List.append_assoc])
      have HRGS := Lib.hid (rgs_all hokk)
      have hod := hokk.ok.od
      have HFa := M_fits hokk.ok.wa
      have HFb := M_fits hokk.ok.sh
      have HFc := M_fits hokk.ok.ba
      have HMa := may_short ((may_iff _).2 hokk.ok.wa)
      have HMb := may_short ((may_iff _).2 hokk.ok.sh)
      have HMc := may_short ((may_iff _).2 hokk.ok.ba)
      have hMa := hM.same ((Below.refl wr.heap.size wr).alloc (Nat.le_refl _) (.cells #[.int .i64 d.od, .slice A1 d.wa.length l1, .slice A2 d.sh.length l2, .slice A3 d.ba.length l3, .bool (isIn d 0), .bool (isIn d 1), .bool (isIn d 2), .bool (isIn d 3), .bool (isIn d 4), .bool (isIn d 5), .bool (isIn d 6), .bool (isIn d 7)] 46))
      have hga : w1.grownBy (wr.alloc (.cells #[.int .i64 d.od, .slice A1 d.wa.length l1, .slice A2 d.sh.length l2, .slice A3 d.ba.length l3, .bool (isIn d 0), .bool (isIn d 1), .bool (isIn d 2), .bool (isIn d 3), .bool (isIn d 4), .bool (isIn d 5), .bool (isIn d 6), .bool (isIn d 7)] 46)) (some w.heap.size) := hg.trans (World.grownBy_alloc _ _ _)
      have hb8 := Ob.new wr 46 #[.int .i64 d.od, .slice A1 d.wa.length l1, .slice A2 d.sh.length l2, .slice A3 d.ba.length l3, .bool (isIn d 0), .bool (isIn d 1), .bool (isIn d 2), .bool (isIn d 3), .bool (isIn d 4), .bool (isIn d 5), .bool (isIn d 6), .bool (isIn d 7)]
      have hwr : w.heap.size < wr.heap.size := by have := hg.size; omega
      generalize hst : ((numC es.length ++ cellsR ((es.take k).map (·.d)), false) : List UInt8 × Bool) = st at *
      have C1 := Lib.hid (refmnum_calls d.od w.heap.size st _ hMa (by omega) (by omega))
      have C2 := Lib.hid (fun V hV (hk : w1.grownBy V (some w.heap.size)) => refputi_calls d.wa (.slice A1 d.wa.length l1) w.heap.size (Ce.mPut st (numC d.od)) V hV (fun W hW => grown_items i1 (hk.trans hW) (Nat.le_refl _) (by omega)) HFa HMa)
      have C3 := Lib.hid (fun V hV (hk : w1.grownBy V (some w.heap.size)) => refputi_calls d.sh (.slice A2 d.sh.length l2) w.heap.size (mPutI (Ce.mPut st (numC d.od)) d.wa) V hV (fun W hW => grown_items i2 (hk.trans hW) (Nat.le_refl _) (by omega)) HFb HMb)
      have C4 := Lib.hid (fun V hV (hk : w1.grownBy V (some w.heap.size)) => refputi_calls d.ba (.slice A3 d.ba.length l3) w.heap.size (mPutI (mPutI (Ce.mPut st (numC d.od)) d.wa) d.sh) V hV (fun W hW => grown_items i3 (hk.trans hW) (Nat.le_refl _) (by omega)) HFc HMc)
      have HSW := Lib.hid (show mPutR st d = mNums (Ce.mPut (mPutI (mPutI (mPutI (Ce.mPut st (numC d.od)) d.wa) d.sh) d.ba) (numC (regs d).length)) (regs d) from rfl)
      rw [← HRGS.out] at HSW
      generalize mPutI (mPutI (mPutI (Ce.mPut st (numC d.od)) d.wa) d.sh) d.ba = t4 at *
      generalize mPutI (mPutI (Ce.mPut st (numC d.od)) d.wa) d.sh = t3 at *
      generalize mPutI (Ce.mPut st (numC d.od)) d.wa = t2 at *
      generalize Ce.mPut st (numC d.od) = t1 at *
      have HGA := Lib.hid hga
      have HB8 := Lib.hid (fun V (hv : (wr.alloc (.cells #[.int .i64 d.od, .slice A1 d.wa.length l1, .slice A2 d.sh.length l2, .slice A3 d.ba.length l3, .bool (isIn d 0), .bool (isIn d 1), .bool (isIn d 2), .bool (isIn d 3), .bool (isIn d 4), .bool (isIn d 5), .bool (isIn d 6), .bool (isIn d 7)] 46)).grownBy V (some w.heap.size)) => hb8.kept hv (fun e => by have := Option.some.inj e; omega))
      have HRCC := Lib.hid (fun V (h : Ob V wr.heap.size 46 #[.int .i64 d.od, .slice A1 d.wa.length l1, .slice A2 d.sh.length l2, .slice A3 d.ba.length l3, .bool (isIn d 0), .bool (isIn d 1), .bool (isIn d 2), .bool (isIn d 3), .bool (isIn d 4), .bool (isIn d 5), .bool (isIn d 6), .bool (isIn d 7)]) j (hj : j < 8) => show V.cell? ⟨wr.heap.size, 4 + j, none⟩ = some (.bool (isIn d j)) from h.cell (by rw [← HRCd.out]; exact HRC.out j hj))
      have y0 := hb8.cell (j := 0) (v := .int .i64 d.od) rfl
      clear hst hM hMa hga HFa HFb HFc HMa HMb HMc hokk hel hnl hcl i1 i2 i3 hSr hxr hb8 HRC HRCd
      go_wp2_with fail
      refine C1.out.mono ?_
      rintro e V1 ⟨rfl, hm1, hk1⟩
      clear y0 c0 c1 c2 c3 c4 c5 c6 c7 c8 c9 c10 c11 q1
      have y1 := (HB8.out V1 hk1).cell (j := 1) (v := .slice A1 d.wa.length l1) rfl
      go_wp2_with fail
      refine (C2.out V1 hm1 (HGA.out.trans hk1)).mono ?_
      rintro e V2 ⟨rfl, hm2, hk2⟩
      replace hk2 := hk1.trans hk2
      clear y1 hm1 hk1
      have y1 := (HB8.out V2 hk2).cell (j := 2) (v := .slice A2 d.sh.length l2) rfl
      go_wp2_with fail
      refine (C3.out V2 hm2 (HGA.out.trans hk2)).mono ?_
      rintro e V3 ⟨rfl, hm3, hk3⟩
      replace hk3 := hk2.trans hk3
      clear y1 hm2 hk2
      have y1 := (HB8.out V3 hk3).cell (j := 3) (v := .slice A3 d.ba.length l3) rfl
      go_wp2_with fail
      refine (C4.out V3 hm3 (HGA.out.trans hk3)).mono ?_
      rintro e V4 ⟨rfl, hm4, hk4⟩
      replace hk4 := hk3.trans hk4
      clear y1 hm3 hk3
      have HG4 := Lib.hid (HGA.out.trans hk4)
      have HO4 := Lib.hid (HB8.out V4 hk4)
      have HM4 := Lib.hid hm4
      clear hm4 hk4 HGA HB8 C1 C2 C3 C4
      generalize wr.heap.size = rb at *
      go_wp2
      go_loopw [6, 7] (fun n i wz => ∃ j : Nat, j ≤ 8 ∧ i = .int .i64 j ∧ n = .int .i64 (rgs d j).length ∧ wz = V4) (fun _ i _ => 8 - (intOf i).toNat)
      case atStart => exact ⟨0, by omega, rfl, rfl, rfl⟩
      case round =>
        obtain ⟨j, hj, rfl, rfl, rfl⟩ := hrel
        have hrl := rgs_len d j
        by_cases hj8 : j < 8
        · have hd8 : decide ((j : Int) < 8) = true := by simp; omega
          have yj := HRCC.out wr HO4.out j hj8
          have HRS := Lib.hid (rgs_succ d j)
          cases hin : isIn d j with
          | true =>
            rw [hin] at yj
            have HR1 := Lib.hid (show (rgs d (j + 1)).length = (rgs d j).length + 1 by rw [HRS.out, hin]; simp)
            clear hin
            generalize (rgs d j).length = nn at *
            go_wp2
            exact ⟨⟨j + 1, by omega, by go_num, by rw [HR1.out]; go_num, trivial⟩, by simp [intOf]; omega⟩
          | false =>
            rw [hin] at yj
            have HR1 := Lib.hid (show (rgs d (j + 1)).length = (rgs d j).length by rw [HRS.out, hin]; simp)
            clear hin
            generalize (rgs d j).length = nn at *
            go_wp2
            exact ⟨⟨j + 1, by omega, by go_num, by rw [HR1.out], trivial⟩, by simp [intOf]; omega⟩
        · obtain rfl : j = 8 := by omega
          have hd8 : decide ((8 : Int) < 8) = false := by decide
          have C5 := Lib.hid (refmnum_calls (rgs d 8).length w.heap.size t4 wr HM4.out (by omega) (by omega))
          generalize hN : (rgs d 8).length = nn at *
          have HN := Lib.hid hN
          clear hN hrl
          go_wp2_with fail
          refine C5.out.mono ?_
          rintro e V5 ⟨rfl, hm5, hk5⟩
          have HG5 := Lib.hid (HG4.out.trans hk5)
          have HO5 := Lib.hid (HO4.out.kept hk5 (fun e => by have := Option.some.inj e; omega))
          have HM5 := Lib.hid hm5
          clear hm5 C5
          generalize Ce.mPut t4 (numC (nn : Int)) = t5 at *
          have hwV : V5.grownBy V5 (some w.heap.size) := World.grownBy.refl _ _
          clear hk5
          go_wp2
          go_loopw [8] (fun i wy => ∃ j : Nat, j ≤ 8 ∧ i = .int .i64 j ∧ Rm wy w.heap.size (mNums t5 (rgs d j)) ∧ V5.grownBy wy (some w.heap.size)) (fun i _ => 8 - (intOf i).toNat)
          case atStart => exact ⟨0, by omega, rfl, HM5.out, hwV⟩
          case round =>
            obtain ⟨j, hj, rfl, hMj, hgj⟩ := hrel
            by_cases hj8 : j < 8
            · have hd8 : decide ((j : Int) < 8) = true := by simp; omega
              have yj := HRCC.out wr (HO5.out.kept hgj (fun e => by have := Option.some.inj e; omega)) j hj8
              have HRS := Lib.hid (rgs_succ d j)
              have HMj := Lib.hid hMj
              have Hgj := Lib.hid hgj
              clear hMj hgj hwV
              cases hin : isIn d j with
              | true =>
                rw [hin] at yj
                have HR1 := Lib.hid (show mNums t5 (rgs d (j + 1)) = Ce.mPut (mNums t5 (rgs d j)) (numC j) by rw [HRS.out, hin, if_pos rfl, mNums_snoc])
                have C := Lib.hid (refmnum_calls j w.heap.size _ wr HMj.out (by omega) (by omega))
                clear hin
                go_wp2_with fail
                refine C.out.mono ?_
                rintro e Wy ⟨rfl, hMy, hgy⟩
                go_wp2
                exact ⟨⟨j + 1, by omega, by go_num, by rw [HR1.out]; exact hMy, Hgj.out.trans hgy⟩, by simp [intOf]; omega⟩
              | false =>
                rw [hin] at yj
                have HR1 := Lib.hid (show mNums t5 (rgs d (j + 1)) = mNums t5 (rgs d j) by rw [HRS.out, hin]; simp)
                clear hin
                go_wp2
                exact ⟨⟨j + 1, by omega, by go_num, by rw [HR1.out]; exact HMj.out, Hgj.out⟩, by simp [intOf]; omega⟩
            · obtain rfl : j = 8 := by omega
              have hd8 : decide ((8 : Int) < 8) = false := by decide
              rw [← HSW.out, HP.out] at hMj
              have HGF := Lib.hid (HG5.out.trans hgj)
              have HMF := Lib.hid hMj
              clear hMj hgj hwV
              go_wp2
              exact ⟨⟨k + 1, by omega, by go_num, HMF.out, HGF.out⟩, by simp [intOf]; omega⟩
    · obtain rfl : k = es.length := by omega
      have hd : decide ((es.length : Int) < (es.length : Int)) = false := by simp
      rw [← HE.out] at hM
      obtain ⟨-, v, hO, hB⟩ := hM
      have z0 := hO.cell (j := 0) (v := v) rfl
      obtain ⟨Av, cv, rfl, -⟩ := hB.form
      go_wp2
      go_ret
      exact ⟨⟨_, rfl, hB.wide (Nat.zero_le _) (Nat.le_refl _)⟩, hal.grown hg (by omega) (fun k e => by cases e; exact Nat.le_refl _)⟩
end Pc
end Go.Proofs.YtdbkkldgobkjcaaGreat

namespace Go.Proofs.YtdbkkldgobkjcaaGreat
open Go.RowKit Go.Maps
namespace Pc
open It Mv Ce

set_option maxRecDepth 100000 in
set_option maxHeartbeats 4000000 in
theorem rmay_calls (d : Row) (v1 v2 v3 : Value) (w : World) (i1 : ItemsAt w 0 w.heap.size v1 d.wa) (i2 : ItemsAt w 0 w.heap.size v2 d.sh) (i3 : ItemsAt w 0 w.heap.size v3 d.ba) (hm : GMap intK w Tryz.prog 3 d.fb d.fr) (h : OkE d) :
    Calls Tryz.prog 84 #[rowV d v1 v2 v3] w fun e w' => e = .returned (.bool true) ∧ Below w.heap.size w w' := by
  have hfb := hm.lt
  have hF1 := M_fits h.ok.wa
  have hF2 := M_fits h.ok.sh
  have hF3 := M_fits h.ok.ba
  obtain ⟨A1, c1, rfl, -⟩ := i1.form
  obtain ⟨A2, c2, rfl, -⟩ := i2.form
  obtain ⟨A3, c3, rfl, -⟩ := i3.form
  unfold rowV
  have hal := (Below.refl w.heap.size w).alloc (Nat.le_refl _) (.cells #[.int .i64 d.od, .slice A1 d.wa.length c1, .slice A2 d.sh.length c2, .slice A3 d.ba.length c3, .map (some d.fb)] 87)
  have hO := Ob.new w 87 #[.int .i64 d.od, .slice A1 d.wa.length c1, .slice A2 d.sh.length c2, .slice A3 d.ba.length c3, .map (some d.fb)]
  have cA := covers_calls d.wa d.sh _ _ _ (i1.mono hal hal.size) (i2.mono hal hal.size) hF1 hF2
  rw [h.ok.cs] at cA
  have CA := Lib.hid cA
  have cB := fun V (hb : Below w.heap.size w V) => covers_calls d.sh d.ba _ _ V (i2.mono hb hb.size) (i3.mono hb hb.size) hF2 hF3
  rw [h.ok.cb] at cB
  have CB := Lib.hid cB
  have HLN := Lib.hid (fun V (hb : Below w.heap.size w V) ty => (hm.below hb hfb).len (tm := 85) Tryz.underlying85 ty)
  have hwl : 0 < d.wa.length := by
    rcases hd : d.wa with _ | ⟨x, r⟩
    · exact (h.ok.some hd).elim
    · simp
  have hd1 : decide ((d.wa.length : Int) > 0) = true := by simp; omega
  have hcs : 0 < d.fr.length ∨ (d.fr.length = 0 ∧ d.sh.length = 0) := by
    rcases hf : d.fr with _ | ⟨x, r⟩
    · right
      refine ⟨rfl, ?_⟩
      rcases hs : d.sh with _ | ⟨y, q⟩
      · rfl
      · exact (h.sh (by rw [hs]; simp) hf).elim
    · left; simp
  have HAL := Lib.hid hal
  obtain ⟨q0, q1, q2, q3, q4⟩ := hO.five
  generalize d.wa.length = n1 at *
  generalize d.sh.length = n2 at *
  generalize d.ba.length = n3 at *
  generalize d.fr.length = n4 at *
  clear cA cB i1 i2 i3 hm h hF1 hF2 hF3 hal
  go_enter Tryz.func84, Tryz.ntmps84
  go_wp2_with fail
  refine CA.out.mono ?_
  rintro e W1 ⟨rfl, hb1⟩
  have hb01 := HAL.out.trans (hb1.mono HAL.out.size)
  have hO1 := hO.same hb1
  clear q0 q1 q2 q3 q4
  obtain ⟨q0, q1, q2, q3, q4⟩ := hO1.five
  go_wp2_with fail
  refine (CB.out W1 hb01).mono ?_
  rintro e W2 ⟨rfl, hb2⟩
  have hb02 := hb01.trans (hb2.mono hb01.size)
  have hO2 := hO1.same hb2
  have hln := HLN.out W2 hb02
  clear q0 q1 q2 q3 q4
  obtain ⟨q0, q1, q2, q3, q4⟩ := hO2.five
  clear hO hO1 hO2 hb1 hb2 hb01
  rcases hcs with h4 | ⟨h4, h5⟩
  · have hd2 : decide ((n4 : Int) > 0) = true := by simp; omega
    go_wp2
    go_ret
    exact ⟨rfl, hb02⟩
  · have hd2 : decide ((n4 : Int) > 0) = false := by simp; omega
    have hd3 : ¬ 0 < n4 := by omega
    have hd5 : ((n2 : Int) == 0) = true := by simp; omega
    clear h4 h5
    go_wp2
    go_ret
    exact ⟨rfl, hb02⟩

theorem mPut_last {m : List (Int × Value)} {k : Int} {v : Value} (h : ∀ p ∈ m, p.1 < k) : mPut intK m k v = m ++ [(k, v)] := by
  unfold mPut
  have h1 : mDel m k = m := by
    unfold mDel
    rw [List.filter_eq_self]
    intro x hx
    have := h x hx
    simp
    omega
  rw [h1]
  clear h1
  induction m with
  | nil => rfl
  | cons p r ih =>
    unfold mIns
    have hp := h p (by simp)
    rw [show intK.lt k p.1 = decide (k < p.1) from rfl, if_neg (by simp; omega), ih (fun q hq => h q (List.mem_cons_of_mem _ hq))]
    rfl
end Pc
end Go.Proofs.YtdbkkldgobkjcaaGreat

namespace Go.Proofs.YtdbkkldgobkjcaaGreat
open Go.RowKit Go.Maps
namespace Pc
open It Mv Ce

theorem tNum_puts {least most n : Int} (r : List UInt8) (h1 : -9223372036854775808 ≤ n) (h2 : n ≤ 9223372036854775807) (h3 : least ≤ n) (h4 : n ≤ most) : tNum least most (some (numC n ++ r)) = (n, some r) := tNum_put r h1 h2 h3 h4
/-- what reading a row leaves -/
def ReadAt (d : Row) (r : List UInt8) (bt B : Nat) (w w' : World) (e : Ending) : Prop := ∃ v1 v2 v3 fb lo,
  e = .returned (.tuple #[rowV { d with fb := fb } v1 v2 v3, .bool true]) ∧ w.heap.size ≤ fb ∧ fb < lo ∧ lo ≤ w'.heap.size ∧ ItemsAt w' lo w'.heap.size v1 d.wa ∧ ItemsAt w' lo w'.heap.size v2 d.sh ∧ ItemsAt w' lo w'.heap.size v3 d.ba ∧
  GMap intK w' Tryz.prog 3 fb d.fr ∧ Tk 160 w' bt B (some r) ∧ w.grownBy w' (some bt)

set_option maxRecDepth 100000 in
set_option maxHeartbeats 16000000 in
theorem read_calls (d : Row) (hE : OkE d) (r : List UInt8) (bt B : Nat) (w : World) (h : Tk 160 w bt B (some (encR d ++ r))) :
    Calls Tryz.prog 83 #[.pointer (some ⟨bt, 0, none⟩)] w fun e w' => ReadAt d r bt B w w' e := by
  have hmm := @run_makeMap Tryz.prog
  have hbt : bt < w.heap.size := by obtain ⟨_, v, l, lo, bad, h1, _⟩ := h; exact h1.lt
  have hBw := h.1
  have hod := hE.ok.od
  have e0 : encR d ++ r = numC d.od ++ (Ce.encI d.wa ++ (Ce.encI d.sh ++ (Ce.encI d.ba ++ (numC (regs d).length ++ (nums (regs d) ++ r))))) := by unfold encR; simp only [List.append_assoc]
  rw [e0] at h
  have hal0 := (Below.refl w.heap.size w).alloc (Nat.le_refl _) (.cells #[.int .i64 0, .slice none 0 0, .slice none 0 0, .slice none 0 0, .map none] 87)
  have hZ := Ob.new w 87 #[.int .i64 0, .slice none 0 0, .slice none 0 0, .slice none 0 0, .map none]
  have hg0 := World.grownBy_alloc w (.cells #[.int .i64 0, .slice none 0 0, .slice none 0 0, .slice none 0 0, .map none] 87) (some bt)
  have hs0 : (w.alloc (.cells #[.int .i64 0, .slice none 0 0, .slice none 0 0, .slice none 0 0, .map none] 87)).heap.size = w.heap.size + 1 := by simp
  have cN := tnum_calls 1 1099511627776 bt B _ _ (h.same hal0)
  rw [tNum_put _ (by omega) (by omega) (by omega) (by omega)] at cN
  have CN := Lib.hid cN
  have cT := fun V st hV => itake_calls bt B st V hV
  have HIa := Lib.hid (fun q => readI_put (l := d.wa) ((may_iff _).2 hE.ok.wa) q)
  have HIb := Lib.hid (fun q => readI_put (l := d.sh) ((may_iff _).2 hE.ok.sh) q)
  have HIc := Lib.hid (fun q => readI_put (l := d.ba) ((may_iff _).2 hE.ok.ba) q)
  have HE := Lib.hid hE
  have hrl := hE.len
  clear cN h e0 hal0 hE
  go_enter Tryz.func83, Tryz.ntmps83
  go_wp2_with fail
  refine CN.out.mono ?_
  generalize w.alloc (.cells #[.int .i64 0, .slice none 0 0, .slice none 0 0, .slice none 0 0, .map none] 87) = w0 at *
  rintro e V1 ⟨rfl, hT1, hg1, -⟩
  have hg01 := hg0.trans hg1
  have hZ1 := hZ.kept hg1 (fun e => by have := Option.some.inj e; omega)
  have hs1 := hg1.size
  obtain ⟨fb, hfb⟩ : ∃ fb, V1.heap.size = fb := ⟨_, rfl⟩
  have hbm := ((Below.refl V1.heap.size V1).alloc (Nat.le_refl _) (.map #[] 0))
  have hGm := GMap.made (K := intK) V1 Tryz.prog 3
  rw [hfb] at hGm
  have hb1a := hbm.alloc hbm.size (.cells #[.int .i64 d.od, .slice none 0 0, .slice none 0 0, .slice none 0 0, .map (some fb)] 87)
  have hT1a := hT1.same hb1a
  have hO1 := Ob.new (V1.alloc (.map #[] 0)) 87 #[.int .i64 d.od, .slice none 0 0, .slice none 0 0, .slice none 0 0, .map (some fb)]
  rw [World.size_alloc, hfb] at hO1
  have hG1 : GMap intK ((V1.alloc (.map #[] 0)).alloc (.cells #[.int .i64 d.od, .slice none 0 0, .slice none 0 0, .slice none 0 0, .map (some fb)] 87)) Tryz.prog 3 fb [] := hGm.below ((Below.refl (fb + 1) _).alloc (by simp; omega) _) (by omega)
  have hZ1a := hZ1.same hb1a
  have hg1a := hg01.trans (only_of_below hb1a (some bt))
  have hs1a : ((V1.alloc (.map #[] 0)).alloc (.cells #[.int .i64 d.od, .slice none 0 0, .slice none 0 0, .slice none 0 0, .map (some fb)] 87)).heap.size = fb + 2 := by simp; omega
  clear hg0 hg1 hT1 hbm hGm hb1a hg01 hZ hZ1 CN
  have C1 := cT _ _ hT1a
  rw [HIa.out] at C1
  have CC1 := Lib.hid C1
  clear C1 hT1a
  go_wp2_with fail
  try simp only [hfb]
  refine CC1.out.mono ?_
  generalize (V1.alloc (.map #[] 0)).alloc (.cells #[.int .i64 d.od, .slice none 0 0, .slice none 0 0, .slice none 0 0, .map (some fb)] 87) = V1a at *
  have hfb1 : w.heap.size + 1 ≤ fb := by omega
  clear hfb
  rintro e V2 ⟨⟨sv1, rfl, hsv1⟩, hT2, hg2⟩
  obtain ⟨A1, c1, rfl, -⟩ := (ItemsAt.of_own hsv1).form
  have hO2 := hO1.kept hg2 (fun e => by have := Option.some.inj e; omega)
  obtain ⟨y0, y1, y2, y3, y4⟩ := hO2.five
  obtain ⟨f0, f1, f2, f3, f4⟩ := hO2.free5
  have q2 := grownBy_set V2 (fb + 1) 1 (.slice A1 d.wa.length c1)
  have hO2s : Ob (V2.setCell ⟨fb + 1, 1, none⟩ (.slice A1 d.wa.length c1)) (fb + 1) 87 #[.int .i64 d.od, .slice A1 d.wa.length c1, .slice none 0 0, .slice none 0 0, .map (some fb)] := hO2.set 1 (.slice A1 d.wa.length c1)
  have hT2s := hT2.kept q2 (fun e => by have := Option.some.inj e; omega) (fun g e => by cases e; omega)
  have hG2s := (hG1.kept hg2 (fun e => by have := Option.some.inj e; omega)).kept q2 (fun e => by have := Option.some.inj e; omega)
  have hZ2s := (hZ1a.kept hg2 (fun e => by have := Option.some.inj e; omega)).kept q2 (fun e => by have := Option.some.inj e; omega)
  have hgg2 := (hg1a.trans hg2).andThen q2 (fun j e => .inl (by cases e; omega))
  have hw1 := ownsRow_set (j := 1) (u := .slice A1 d.wa.length c1) hsv1 (b := fb + 1) (by omega)
  have hz2 : V1a.heap.size ≤ (V2.setCell ⟨fb + 1, 1, none⟩ (.slice A1 d.wa.length c1)).heap.size := by have := hg2.size; have := q2.size; omega
  have C2 := cT _ _ hT2s
  rw [HIb.out] at C2
  have CC2 := Lib.hid C2
  clear hO1 hsv1 hT2 hO2 hG1 hZ1a hg2 q2 hg1a C2 hT2s CC1
  go_wp2_with fail
  refine CC2.out.mono ?_
  generalize V2.setCell ⟨fb + 1, 1, none⟩ (.slice A1 d.wa.length c1) = V2s at *
  clear y0 y1 y2 y3 y4 f0 f1 f2 f3 f4
  rintro e V3 ⟨⟨sv2, rfl, hsv2⟩, hT3, hg3⟩
  obtain ⟨A2, c2, rfl, -⟩ := (ItemsAt.of_own hsv2).form
  have hO3 := hO2s.kept hg3 (fun e => by have := Option.some.inj e; omega)
  obtain ⟨y0, y1, y2, y3, y4⟩ := hO3.five
  obtain ⟨f0, f1, f2, f3, f4⟩ := hO3.free5
  have q3 := grownBy_set V3 (fb + 1) 2 (.slice A2 d.sh.length c2)
  have hO3s : Ob (V3.setCell ⟨fb + 1, 2, none⟩ (.slice A2 d.sh.length c2)) (fb + 1) 87 #[.int .i64 d.od, .slice A1 d.wa.length c1, .slice A2 d.sh.length c2, .slice none 0 0, .map (some fb)] := hO3.set 2 (.slice A2 d.sh.length c2)
  have hT3s := hT3.kept q3 (fun e => by have := Option.some.inj e; omega) (fun g e => by cases e; omega)
  have hG3s := (hG2s.kept hg3 (fun e => by have := Option.some.inj e; omega)).kept q3 (fun e => by have := Option.some.inj e; omega)
  have hZ3s := (hZ2s.kept hg3 (fun e => by have := Option.some.inj e; omega)).kept q3 (fun e => by have := Option.some.inj e; omega)
  have hgg3 := (hgg2.trans hg3).andThen q3 (fun j e => .inl (by cases e; omega))
  have hw1b := ownsRow_set (j := 2) (u := .slice A2 d.sh.length c2) (ownsRow_far hw1 hg3 (by omega)) (b := fb + 1) (by omega)
  have hw2 := ownsRow_set (j := 2) (u := .slice A2 d.sh.length c2) hsv2 (b := fb + 1) (by omega)
  have hz3 : V2s.heap.size ≤ (V3.setCell ⟨fb + 1, 2, none⟩ (.slice A2 d.sh.length c2)).heap.size := by have := hg3.size; have := q3.size; omega
  have C3 := cT _ _ hT3s
  rw [HIc.out] at C3
  have CC3 := Lib.hid C3
  clear hsv2 hT3 hO3 hG2s hZ2s hg3 q3 hgg2 C3 hT3s CC2 hw1 hO2s
  go_wp2_with fail
  refine CC3.out.mono ?_
  generalize V3.setCell ⟨fb + 1, 2, none⟩ (.slice A2 d.sh.length c2) = V3s at *
  clear y0 y1 y2 y3 y4 f0 f1 f2 f3 f4
  rintro e V4 ⟨⟨sv3, rfl, hsv3⟩, hT4, hg4⟩
  obtain ⟨A3, c3, rfl, -⟩ := (ItemsAt.of_own hsv3).form
  have hO4 := hO3s.kept hg4 (fun e => by have := Option.some.inj e; omega)
  obtain ⟨y0, y1, y2, y3, y4⟩ := hO4.five
  obtain ⟨f0, f1, f2, f3, f4⟩ := hO4.free5
  have q4 := grownBy_set V4 (fb + 1) 3 (.slice A3 d.ba.length c3)
  have hO4s : Ob (V4.setCell ⟨fb + 1, 3, none⟩ (.slice A3 d.ba.length c3)) (fb + 1) 87 #[.int .i64 d.od, .slice A1 d.wa.length c1, .slice A2 d.sh.length c2, .slice A3 d.ba.length c3, .map (some fb)] := hO4.set 3 (.slice A3 d.ba.length c3)
  have hT4s := hT4.kept q4 (fun e => by have := Option.some.inj e; omega) (fun g e => by cases e; omega)
  have hG4s := (hG3s.kept hg4 (fun e => by have := Option.some.inj e; omega)).kept q4 (fun e => by have := Option.some.inj e; omega)
  have hZ4s := (hZ3s.kept hg4 (fun e => by have := Option.some.inj e; omega)).kept q4 (fun e => by have := Option.some.inj e; omega)
  have hgg4 := (hgg3.trans hg4).andThen q4 (fun j e => .inl (by cases e; omega))
  have hw1c := ownsRow_set (j := 3) (u := .slice A3 d.ba.length c3) (ownsRow_far hw1b hg4 (by omega)) (b := fb + 1) (by omega)
  have hw2b := ownsRow_set (j := 3) (u := .slice A3 d.ba.length c3) (ownsRow_far hw2 hg4 (by omega)) (b := fb + 1) (by omega)
  have hw3 := ownsRow_set (j := 3) (u := .slice A3 d.ba.length c3) hsv3 (b := fb + 1) (by omega)
  have hz4 : V3s.heap.size ≤ (V4.setCell ⟨fb + 1, 3, none⟩ (.slice A3 d.ba.length c3)).heap.size := by have := hg4.size; have := q4.size; omega
  have C4 := tnum_calls 0 8 bt B _ _ hT4s
  rw [tNum_put _ (by omega) (by omega) (by omega) (by omega)] at C4
  have CC4 := Lib.hid C4
  have L1 := Lib.hid ((ItemsAt.of_own hw1c).wide (lo' := fb + 2) (by omega) (Nat.le_refl _))
  have L2 := Lib.hid ((ItemsAt.of_own hw2b).wide (lo' := fb + 2) (by omega) (Nat.le_refl _))
  have L3 := Lib.hid ((ItemsAt.of_own hw3).wide (lo' := fb + 2) (by omega) (Nat.le_refl _))
  have hfz : fb + 2 ≤ (V4.setCell ⟨fb + 1, 3, none⟩ (.slice A3 d.ba.length c3)).heap.size := by omega
  clear hsv3 hT4 hO4 hG3s hZ3s hg4 q4 hgg3 C4 hT4s CC3 hw1b hw2 hw1c hw2b hw3 hO3s
  go_wp2_with fail
  refine CC4.out.mono ?_
  generalize V4.setCell ⟨fb + 1, 3, none⟩ (.slice A3 d.ba.length c3) = V4s at *
  clear y0 y1 y2 y3 y4 f0 f1 f2 f3 f4
  rintro e V5 ⟨rfl, hT5, hg5, -⟩
  have hO5 := hO4s.kept hg5 (fun e => by have := Option.some.inj e; omega)
  have hG5 := hG4s.kept hg5 (fun e => by have := Option.some.inj e; omega)
  have hZ5 := hZ4s.kept hg5 (fun e => by have := Option.some.inj e; omega)
  have hgg5 := hgg4.trans hg5
  have hs5 := hg5.size
  have M1 := Lib.hid ((Sl.grown L1.out hg5 (Nat.le_refl _) (fun k e => .inl (by cases e; omega)) : ItemsAt V5 (fb + 2) V4s.heap.size (.slice A1 d.wa.length c1) d.wa))
  have M2 := Lib.hid ((Sl.grown L2.out hg5 (Nat.le_refl _) (fun k e => .inl (by cases e; omega)) : ItemsAt V5 (fb + 2) V4s.heap.size (.slice A2 d.sh.length c2) d.sh))
  have M3 := Lib.hid ((Sl.grown L3.out hg5 (Nat.le_refl _) (fun k e => .inl (by cases e; omega)) : ItemsAt V5 (fb + 2) V4s.heap.size (.slice A3 d.ba.length c3) d.ba))
  have HSrt := Lib.hid HE.out.srt
  have HReg := Lib.hid HE.out.regs
  have HFr := Lib.hid HE.out.ok.fr
  have hfl : d.fr.length = (regs d).length := (List.length_map _).symm
  clear hO4s hG4s hZ4s hgg4 hg5 CC4 L1 L2 L3
  go_wp2
  go_loopw [5, 6, 27] (fun la ri i wr => ∃ (k : Nat) (l : Int), k ≤ (regs d).length ∧ i = .int .i64 k ∧ la = .int .i64 l ∧ ri = .bool true ∧ (∀ x ∈ (regs d).drop k, l < x) ∧ -1 ≤ l ∧ l ≤ 7 ∧ GMap intK wr Tryz.prog 3 fb (d.fr.take k) ∧ Tk 160 wr bt B (some (nums ((regs d).drop k) ++ r)) ∧
    Ob wr (fb + 1) 87 #[.int .i64 d.od, .slice A1 d.wa.length c1, .slice A2 d.sh.length c2, .slice A3 d.ba.length c3, .map (some fb)] ∧ Ob wr w.heap.size 87 #[.int .i64 0, .slice none 0 0, .slice none 0 0, .slice none 0 0, .map none] ∧ w.grownBy wr (some bt) ∧ Kept (fun i => fb + 2 ≤ i ∧ i < V4s.heap.size) V5 wr) (fun _ _ i _ => (regs d).length - (intOf i).toNat)
  case atStart => exact ⟨0, -1, by omega, rfl, rfl, rfl, fun x hx => by have := HReg.out x (by simpa using hx); omega, by omega, by omega, hG5, hT5, hO5, hZ5, hgg5, Kept.refl _ _⟩
  case round =>
    obtain ⟨k, l, hk, rfl, rfl, rfl, hlx, hl0, hl1, hG, hT, hO, hZ, hg, hK⟩ := hrel
    clear hG5 hT5 hO5 hZ5 hgg5
    by_cases hlt : k < (regs d).length
    · have hd : decide ((k : Int) < ((regs d).length : Int)) = true := by simp; omega
      have hdr := List.drop_eq_getElem_cons hlt
      rw [hdr, nums_cons, List.append_assoc] at hT
      have hx := HReg.out (regs d)[k] (List.getElem_mem hlt)
      have hlx0 := hlx (regs d)[k] (by rw [hdr]; exact List.mem_cons_self)
      have hnext : ∀ x ∈ (regs d).drop (k + 1), (regs d)[k] < x := fun x hx => by
        have hp := HSrt.out
        rw [← List.take_append_drop k (regs d), List.pairwise_append, hdr, List.pairwise_cons] at hp
        exact hp.2.1.1 x hx
      have hprev : ∀ p ∈ d.fr.take k, p.1 < (regs d)[k] := fun p hp => by
        have hp2 := HSrt.out
        rw [← List.take_append_drop k (regs d), List.pairwise_append, hdr] at hp2
        refine hp2.2.2 p.1 ?_ _ List.mem_cons_self
        unfold regs
        rw [← List.map_take]
        exact List.mem_map.2 ⟨p, hp, rfl⟩
      have hfrk : d.fr.take (k + 1) = d.fr.take k ++ [((regs d)[k], .bool true)] := by
        have hlf : k < d.fr.length := by omega
        rw [List.take_succ_eq_append_getElem hlf]
        congr 2
        have h1 := (HFr.out d.fr[k] (List.getElem_mem hlf)).2.2
        have h2 : (regs d)[k] = d.fr[k].1 := List.getElem_map (fun p : Int × Value => p.1)
        rw [h2]
        exact Prod.ext rfl h1
      have HFK := Lib.hid hfrk
      have HN := Lib.hid hnext
      have HPV := Lib.hid hprev
      generalize (regs d)[k] = x at *
      have C := tnum_calls 0 7 bt B _ _ hT
      rw [tNum_put _ (by omega) (by omega) (by omega) (by omega)] at C
      have CC := Lib.hid C
      have hd2 : decide (x > l) = true := by simp; omega
      have hd3 : decide (l < x) = true := by simp; omega
      have HG := Lib.hid hG
      have HO := Lib.hid hO
      have HZ := Lib.hid hZ
      have HGG := Lib.hid hg
      have HKK := Lib.hid hK
      have hkey := Lib.hid (keyI (k := x) (by omega) (by omega))
      clear hT hdr hlx hnext hprev hfrk C hG hO hZ hg hK
      go_wp2_with fail
      refine CC.out.mono ?_
      rintro e W1 ⟨rfl, hT1, hg1, -⟩
      have hO1 := HO.out.kept hg1 (fun e => by have := Option.some.inj e; omega)
      obtain ⟨y0, y1, y2, y3, y4⟩ := hO1.five
      have hG1 := HG.out.kept hg1 (fun e => by have := Option.some.inj e; omega)
      have hlf : (d.fr.take k).length ≤ 8 := by rw [List.length_take]; omega
      obtain ⟨W3, hput, hG3, hg3⟩ := hG1.put keyedI Tryz.underlying85 (by unfold maxLen; omega) hkey.out (val := .bool true)
      rw [mPut_last HPV.out, ← HFK.out] at hG3
      have hO3 := hO1.kept hg3 (fun e => by have := Option.some.inj e; omega)
      have hZ3 := (HZ.out.kept hg1 (fun e => by have := Option.some.inj e; omega)).kept hg3 (fun e => by have := Option.some.inj e; omega)
      have hT3 := hT1.kept hg3 (fun e => by have := Option.some.inj e; omega) (fun g e => by cases e; omega)
      have hgn := (HGG.out.trans hg1).andThen hg3 (fun j e => .inl (by cases e; omega))
      have hkn := (HKK.out.trans (Kept.of_grown hg1 (fun i hi => ⟨by have := HKK.out.size; omega, fun e => by have := Option.some.inj e; omega⟩))).trans (Kept.of_grown hg3 (fun i hi => ⟨by have := HKK.out.size; have := hg1.size; omega, fun e => by have := Option.some.inj e; omega⟩))
      clear hT1 hg1 hO1 hG1 hg3
      go_wp2
      go_roundw
      case rel => exact ⟨k + 1, x, by omega, by go_num, rfl, rfl, HN.out, by omega, by omega, hG3, hT3, hO3, hZ3, hgn, hkn⟩
      case measure => simp [intOf]; omega
    · obtain rfl : k = (regs d).length := by omega
      have hd : decide (((regs d).length : Int) < ((regs d).length : Int)) = false := by simp
      rw [← hfl, List.take_length] at hG
      rw [List.drop_length] at hT
      obtain ⟨y0, y1, y2, y3, y4⟩ := hO.five
      obtain ⟨z0, z1, z2, z3, z4⟩ := hZ.five
      obtain ⟨f0, f1, f2, f3, f4⟩ := hZ.free5
      have q9 := grown_set5 wr w.heap.size (.int .i64 d.od) (.slice A1 d.wa.length c1) (.slice A2 d.sh.length c2) (.slice A3 d.ba.length c3) (.map (some fb))
      have hZ9 := hZ.set5 (.int .i64 d.od) (.slice A1 d.wa.length c1) (.slice A2 d.sh.length c2) (.slice A3 d.ba.length c3) (.map (some fb))
      have HG9 := Lib.hid (hG.kept q9 (fun e => by have := Option.some.inj e; omega))
      have HT9 := Lib.hid (hT.kept q9 (fun e => by have := Option.some.inj e; omega) (fun g e => by cases e; omega))
      have HGG9 := Lib.hid (hg.andThen q9 (fun j e => .inl (by cases e; exact Nat.le_refl _)))
      have hk9 := hK.trans (Kept.of_grown q9 (fun i hi => ⟨by have := hK.size; omega, fun e => by have := Option.some.inj e; omega⟩))
      have N1 := Lib.hid (hk9.sl M1.out (fun i a b => ⟨a, b⟩))
      have N2 := Lib.hid (hk9.sl M2.out (fun i a b => ⟨a, b⟩))
      have N3 := Lib.hid (hk9.sl M3.out (fun i a b => ⟨a, b⟩))
      have hk9s := hk9.size
      clear hlx hG hT hO hZ hg hK q9 hk9
      go_wp2
      obtain ⟨p0, p1, p2, p3, p4⟩ := hZ9.five
      refine bodyPost_ret (v := .tuple #[rowV { d with fb := fb } (.slice A1 d.wa.length c1) (.slice A2 d.sh.length c2) (.slice A3 d.ba.length c3), .bool true]) ?_ rfl ⟨_, _, _, fb, fb + 2, rfl, by omega, by omega, by omega, ItemsAt.wide N1.out (Nat.le_refl _) (by omega), ItemsAt.wide N2.out (Nat.le_refl _) (by omega), ItemsAt.wide N3.out (Nat.le_refl _) (by omega), HG9.out, HT9.out, HGG9.out⟩
      simp [results, Tryz.f83, go_sem, p0, p1, p2, p3, p4, rowV]
end Pc
end Go.Proofs.YtdbkkldgobkjcaaGreat

namespace Go.Proofs.YtdbkkldgobkjcaaGreat
open Go.RowKit Go.Maps
namespace Pc
open It Mv Ce

theorem putR_last {ds : List Row} {d : Row} (h : ∀ c ∈ ds, c.od < d.od) : putR ds d = ds ++ [d] := by
  unfold putR
  have h1 : delR ds d.od = ds := by
    unfold delR
    rw [List.filter_eq_self]
    intro x hx
    have := h x hx
    simp
    omega
  rw [h1]
  clear h1
  induction ds with
  | nil => rfl
  | cons p r ih =>
    unfold insR
    have hp := h p (by simp)
    rw [if_neg (by simp; omega), ih (fun q hq => h q (List.mem_cons_of_mem _ hq))]
    rfl
theorem PcAt.lower {w : World} {base base' b mb : Nat} {X : Nat → Prop} {ds : List Row} (h : PcAt w base b mb X ds) (hb : base' ≤ base) : PcAt w base' b mb X ds :=
  ⟨h.ob, h.map, h.frm, h.apart, fun d hd => ⟨(h.sep d hd).1, (h.sep d hd).2.1, (h.sep d hd).2.2.1, Nat.le_trans hb (h.sep d hd).2.2.2⟩, h.ne, ⟨Nat.le_trans hb h.lo.1, Nat.le_trans hb h.lo.2⟩, h.nx, h.xl, h.ok⟩
theorem PcAt.fewer {w : World} {base b mb : Nat} {X X' : Nat → Prop} {ds : List Row} (h : PcAt w base b mb X ds) (hX : ∀ i, X' i → X i) : PcAt w base b mb X' ds :=
  h.more (Below.refl _ _) fun i hi => ⟨.inl (hX i hi), h.xl i (hX i hi)⟩
theorem OkR.fbs {d : Row} (h : OkR d) (fb : Nat) : OkR { d with fb := fb } := ⟨h.od, h.wa, h.some, h.sh, h.ba, h.cs, h.cb, h.fr⟩
theorem OkE.fbs {d : Row} (h : OkE d) (fb : Nat) : OkE { d with fb := fb } := ⟨h.ok.fbs fb, h.srt, h.sh⟩
theorem GMap.held {w w' : World} {Fr : Nat → Prop} {i : Nat} {m : List (Int × Value)} (h : GMap intK w Tryz.prog 3 i m) (hk : Kept Fr w w') (hi : Fr i) : GMap intK w' Tryz.prog 3 i m := by
  obtain ⟨es, clock, h1, F, h2, e⟩ := h
  exact ⟨es, clock, (hk.block i hi).trans h1, F, h2, e⟩
theorem unp_put {w W W3 : World} {base b mb lo B : Nat} {X : Nat → Prop} {ds : List Row} {m : List (Int × Value)} {d : Row} {v1 v2 v3 : Value} (H : PcAt w base b mb X ds) (hR : Rel w (Fo b mb X ds) m ds)
    (hk : Kept (fun i => i < w.heap.size ∧ ¬ X i) w W) (i1 : ItemsAt W lo B v1 d.wa) (i2 : ItemsAt W lo B v2 d.sh) (i3 : ItemsAt W lo B v3 d.ba) (hB : B ≤ W.heap.size) (hgm : GMap intK W Tryz.prog 3 d.fb d.fr) (hlo1 : w.heap.size ≤ d.fb) (hlo2 : d.fb < lo)
    (hbase : base ≤ w.heap.size) (hok : OkR d) (hlt : ∀ c ∈ ds, c.od < d.od) (hM3 : GMap intK W3 Tryz.prog 3 mb (mPut intK m d.od (rowV d v1 v2 v3))) (hg3 : W.grownBy W3 (some mb)) : PcAt W3 base b mb X (ds ++ [d]) := by
  obtain ⟨m', hm', -⟩ := H.map
  have hmb := hm'.lt
  have hbl := H.ob.lt
  have hk3 : Kept (fun i => i < W.heap.size ∧ i ≠ mb) W W3 := Kept.of_grown hg3 fun i hi => ⟨hi.1, fun e => hi.2 (Option.some.inj e)⟩
  have hsz := hk.size
  have hfl : ∀ c ∈ ds, c.fb < w.heap.size := fun c hc => GMap.lt (H.frm c hc)
  have hL : ∀ {v : Value} {l : List It.Item}, ItemsAt W lo B v l → LiAt W (fun i => lo ≤ i) v l := fun h => ⟨lo, B, h, hB, fun i hi _ => hi⟩
  have hvv : RowAt W (fun i => lo ≤ i) (rowV d v1 v2 v3) d := ⟨v1, v2, v3, rfl, hL i1, hL i2, hL i3⟩
  have hv3 : RowAt W3 (Fo b mb X (ds ++ [d])) (rowV d v1 v2 v3) d := hvv.keep hk3 fun i hi hl => by
    have hl' : lo ≤ i := hl
    refine ⟨⟨hi, by omega⟩, by omega, by omega, fun hx => ?_, fun c hc => ?_⟩
    · have := H.xl i hx; omega
    · rcases List.mem_append.1 hc with hc | hc
      · have := hfl c hc; omega
      · rw [List.mem_singleton.1 hc]; omega
  have hR1 : Rel W (fun i => i < w.heap.size ∧ Fo b mb X ds i) m ds := hR.keep hk fun i hi hf => ⟨⟨hi, hf.2.2.1⟩, ⟨hi, hf⟩⟩
  have hR3 : Rel W3 (Fo b mb X (ds ++ [d])) m ds := hR1.keep hk3 fun i hi hf => by
    refine ⟨⟨hi, hf.2.2.1⟩, hf.2.1, hf.2.2.1, hf.2.2.2.1, fun c hc => ?_⟩
    rcases List.mem_append.1 hc with hc | hc
    · exact hf.2.2.2.2 c hc
    · rw [List.mem_singleton.1 hc]; have := hf.1; omega
  have hRp := Rel.put hv3 hR3
  rw [putR_last hlt] at hRp
  have hap := Apart.put (d := d) H.apart (fun c hc _ => by have := hfl c hc; omega)
  rw [putR_last hlt] at hap
  refine ⟨hk3.ob (hk.ob H.ob ⟨hbl, H.nx.1⟩) ⟨Nat.lt_of_lt_of_le hbl hsz, H.ne⟩, ⟨_, hM3, hRp⟩, fun c hc => ?_, hap, fun c hc => ?_, H.ne, H.lo, H.nx, fun i hi => Nat.lt_of_lt_of_le (H.xl i hi) (Nat.le_trans hsz hg3.size), fun c hc => ?_⟩
  all_goals rcases List.mem_append.1 hc with hc | hc
  · exact GMap.held (GMap.held (H.frm c hc) hk ⟨hfl c hc, (H.sep c hc).2.2.1⟩) hk3 ⟨Nat.lt_of_lt_of_le (hfl c hc) hsz, (H.sep c hc).2.1⟩
  · rw [List.mem_singleton.1 hc]; exact hgm.kept hg3 (fun e => by have := Option.some.inj e; omega)
  · exact H.sep c hc
  · rw [List.mem_singleton.1 hc]
    exact ⟨by omega, by omega, fun hx => by have := H.xl _ hx; omega, by omega⟩
  · exact H.ok c hc
  · rw [List.mem_singleton.1 hc]; exact hok

theorem Like.nil : Like [] [] := rfl
theorem Like.snoc {a b : List Row} (h : Like a b) (d : Row) (fb : Nat) : Like (a ++ [d]) (b ++ [{ d with fb := fb }]) := by
  unfold Like at *
  rw [List.map_append, List.map_append, h]
  rfl
def UnpOk (ds : List Row) (w w' : World) (e : Ending) : Prop := ∃ b mb ds', e = .returned (.tuple #[.pointer (some ⟨b, 0, none⟩), .int .i64 0]) ∧ Like ds ds' ∧ ∀ X : Nat → Prop, (∀ i, X i → i < w.heap.size) → PcAt w' w.heap.size b mb X ds'

set_option maxRecDepth 100000 in
set_option maxHeartbeats 8000000 in
theorem unpack_calls (ds : List Row) (hE : ∀ d ∈ ds, OkE d) (hs : (ds.map (·.od)).Pairwise (· < ·)) (hn : ds.length ≤ 120) (v : Value) (w : World) (hI : BytesAt w 0 w.heap.size v (packR ds)) :
    Calls Tryz.prog 39 #[v] w fun e w' => UnpOk ds w w' e ∧ Below w.heap.size w w' := by
  have hbl : (packR ds).length ≤ 140737488351232 := by
    have h1 := cellsR_len hE
    have h2 := (numC_len ds.length).2
    unfold packR
    rw [List.length_append]
    omega
  have cTk := Lib.hid (take_calls (packR ds) v w hI hbl)
  obtain ⟨A, c, rfl, -⟩ := hI.form
  have cN := fun bt B W h => tnum_calls 0 4096 bt B (some (packR ds)) W h
  have e0 : tNum 0 4096 (some (packR ds)) = (((ds.length : Nat) : Int), some (cellsR ds)) := by unfold packR; exact tNum_put _ (by omega) (by omega) (by omega) (by omega)
  rw [e0] at cN
  have CN := Lib.hid cN
  have HE := Lib.hid hE
  have HS := Lib.hid hs
  clear hI hbl cN e0 hE hs
  go_enter Tryz.func39, Tryz.ntmps39
  go_wp2_with fail
  refine cTk.out.mono ?_
  rintro e Wt ⟨⟨bt, rfl, hbt0, hbt, hTt⟩, hBt⟩
  go_wp2_with fail
  refine (new_calls Wt).mono ?_
  rintro e Wn ⟨⟨b, mb, rfl, hMn⟩, hBn⟩
  have cN0 := Lib.hid (CN.out bt bt Wn (hTt.same hBn))
  obtain ⟨X, hX⟩ : ∃ X : Nat → Prop, X = fun i => i < w.heap.size ∨ i = bt := ⟨_, rfl⟩
  have hst := hBt.size
  have hMv0 := (hMn X (fun i hi => by rw [hX] at hi; omega)).lower hst
  have hXb : X bt := by rw [hX]; exact .inr rfl
  have HXw := Lib.hid (fun i (hi : i < w.heap.size) => show X i by rw [hX]; exact .inl hi)
  have hsn := hBn.size
  have hB0 := hBt.trans (hBn.mono hst)
  have hbmt : Wt.heap.size ≤ mb := (hMn X (fun i hi => by rw [hX] at hi; omega)).lo.2
  clear hTt hMn hX CN cTk
  go_wp2_with fail
  refine cN0.out.mono ?_
  rintro e W0 ⟨rfl, hT0, hg0, -⟩
  have hMv1 := hMv0.keep (Kept.of_grown hg0 fun i hi => ⟨hi.1, fun e => hi.2 (by cases e; exact hXb)⟩)
  have hB1 := hB0.grown hg0 hB0.size (fun g e => by cases e; exact hbt0)
  have hs0 := hg0.size
  have hne := hMv1.ne
  clear hMv0 hg0 hBn hBt hB0 cN0
  go_wp2
  have hnd : ((ds.map (·.od)).length) = ds.length := by simp
  go_loopw [6, 14] (fun la i wr => ∃ (k : Nat) (l : Int) (acc : List Row), k ≤ ds.length ∧ i = .int .i64 k ∧ la = .int .i64 l ∧ 0 ≤ l ∧ l ≤ 1099511627776 ∧ Like (ds.take k) acc ∧ acc.length = k ∧ (∀ d ∈ acc, d.od ≤ l) ∧ (∀ d ∈ ds.drop k, l < d.od) ∧ PcAt wr w.heap.size b mb X acc ∧ Tk 160 wr bt bt (some (cellsR (ds.drop k))) ∧ Below w.heap.size w wr ∧ Wn.heap.size ≤ wr.heap.size) (fun _ i _ => ds.length - (intOf i).toNat)
  case atStart => exact ⟨0, 0, [], by omega, rfl, rfl, by omega, by omega, Like.nil, rfl, (fun d hd => by cases hd), (fun d hd => by have := (HE.out d (by simpa using hd)).ok.od; omega), hMv1, hT0, hB1, hs0⟩
  case round =>
    obtain ⟨k, l, acc, hk, rfl, rfl, hl0, hl1, hLk, hacc, hmx2, hlx, hP, hT, hB, hsz⟩ := hrel
    clear hMv1 hT0 hB1
    by_cases hlt : k < ds.length
    · have hd : decide ((k : Int) < (ds.length : Int)) = true := by simp; omega
      have hdr := List.drop_eq_getElem_cons hlt
      have hLk1 : ds.take (k + 1) = ds.take k ++ [ds[k]] := List.take_succ_eq_append_getElem hlt
      have hnx : ∀ x ∈ ds.drop (k + 1), ds[k].od < x.od := fun x hx => by
        have hp := List.pairwise_map.1 HS.out
        rw [← List.take_append_drop k ds, List.pairwise_append, hdr, List.pairwise_cons] at hp
        exact hp.2.1.1 x hx
      have hEk := HE.out ds[k] (List.getElem_mem hlt)
      have hlo := hlx ds[k] (by rw [hdr]; exact List.mem_cons_self)
      rw [hdr, cellsR_cons] at hT
      have HL1 := Lib.hid hLk1
      have HNX := Lib.hid hnx
      clear hdr hLk1 hnx hlx
      generalize ds[k] = d at *
      have hod := hEk.ok.od
      have HEK := Lib.hid hEk
      have C1 := Lib.hid (read_calls d hEk (cellsR (ds.drop (k + 1))) bt bt wr hT)
      have HP := Lib.hid hP
      have HB := Lib.hid hB
      have HMX := Lib.hid hmx2
      have HLK := Lib.hid hLk
      clear hT hP hB hmx2 hLk hEk
      go_wp2_with fail
      refine C1.out.mono ?_
      rintro e V1 ⟨v1, v2, v3, fb, lo, rfl, hfb, hflo, hlo2, i1, i2, i3, hgm, hT1, hg1⟩
      have hs1 := hg1.size
      have hk1 : Kept (fun i => i < wr.heap.size ∧ ¬ X i) wr V1 := Kept.of_grown hg1 fun i hi => ⟨hi.1, fun e => hi.2 (by cases e; exact hXb)⟩
      have hB1 := HB.out.grown hg1 HB.out.size (fun g e => by cases e; exact hbt0)
      obtain ⟨A1, c1, rfl, -⟩ := i1.form
      obtain ⟨A2, c2, rfl, -⟩ := i2.form
      obtain ⟨A3, c3, rfl, -⟩ := i3.form
      have hal := (Below.refl V1.heap.size V1).alloc (Nat.le_refl _) (.cells #[.int .i64 d.od, .slice A1 d.wa.length c1, .slice A2 d.sh.length c2, .slice A3 d.ba.length c3, .map (some fb)] 87)
      have hO1 := Ob.new V1 87 #[.int .i64 d.od, .slice A1 d.wa.length c1, .slice A2 d.sh.length c2, .slice A3 d.ba.length c3, .map (some fb)]
      obtain ⟨y0, y1, y2, y3, y4⟩ := hO1.five
      have hd1 : decide (d.od ≤ l) = false := by simp; omega
      have CM := Lib.hid (rmay_calls { d with fb := fb } _ _ _ _ ((i1.wide (Nat.zero_le _) (Nat.le_refl _)).mono hal hal.size) ((i2.wide (Nat.zero_le _) (Nat.le_refl _)).mono hal hal.size) ((i3.wide (Nat.zero_le _) (Nat.le_refl _)).mono hal hal.size) (hgm.below hal hgm.lt) (HEK.out.fbs fb))
      have I1 := Lib.hid i1
      have I2 := Lib.hid i2
      have I3 := Lib.hid i3
      have HGM := Lib.hid hgm
      have HAL := Lib.hid hal
      have hsa : (V1.alloc (.cells #[.int .i64 d.od, .slice A1 d.wa.length c1, .slice A2 d.sh.length c2, .slice A3 d.ba.length c3, .map (some fb)] 87)).heap.size = V1.heap.size + 1 := by simp
      dsimp only [rowV] at CM
      clear hg1 C1 i1 i2 i3 hgm hal
      dsimp only [rowV]
      go_wp2_with fail
      refine CM.out.mono ?_
      generalize V1.alloc (.cells #[.int .i64 d.od, .slice A1 d.wa.length c1, .slice A2 d.sh.length c2, .slice A3 d.ba.length c3, .map (some fb)] 87) = V1a at *
      rintro e V2 ⟨rfl, hb2⟩
      have hO2 := hO1.same hb2
      clear y0 y1 y2 y3 y4
      obtain ⟨y0, y1, y2, y3, y4⟩ := hO2.five
      have hb12 := HAL.out.trans (hb2.mono HAL.out.size)
      have hs2 := hb2.size
      have hk2 : Kept (fun i => i < wr.heap.size ∧ ¬ X i) wr V2 := hk1.trans (Kept.of_below hb12 fun i hi => by omega)
      have gb : V2.cell? ⟨b, 0, none⟩ = some (.map (some mb)) := (hk2.ob HP.out.ob ⟨HP.out.ob.lt, HP.out.nx.1⟩).cell (j := 0) rfl
      have hkey := Lib.hid (keyI (k := d.od) (by omega) (by omega))
      obtain ⟨m, hm, hR⟩ := HP.out.map
      have hml : m.length ≤ 120 := by rw [hR.length]; omega
      have hmb := hm.lt
      have HM := Lib.hid (GMap.held hm hk2 ⟨hmb, HP.out.nx.2⟩)
      have HR := Lib.hid hR
      have HK2 := Lib.hid hk2
      have HB2 := Lib.hid (hB1.trans (hb12.mono hB1.size))
      have HT2 := Lib.hid (hT1.same hb12)
      clear hO1 hm hR hk1 hk2 hB1 hT1 CM
      go_wp2
      clear y0 y1 y2 y3 y4
      refine Pu.regionM [(0, false), (1, false), (2, false), (3, false), (4, false), (5, false), (6, false), (7, false), (8, true)] (fun V => V.cell? ⟨b, 0, none⟩ = some (.map (some mb)) ∧ Ob V V1.heap.size 87 #[.int .i64 d.od, .slice A1 d.wa.length c1, .slice A2 d.sh.length c2, .slice A3 d.ba.length c3, .map (some fb)]) hmx (by kernel_rfl) (by kernel_rfl) (by kernel_rfl) ⟨gb, hO2⟩ rfl ?_
      simp only [Pu.named, List.filterMap_cons, List.filterMap_nil, List.getElem?_toArray, List.getElem?_cons_succ, List.getElem?_cons_zero, Option.map_some]
      iterate 8 (apply Pu.WalkM.on (by rfl)
                 · rintro W ⟨gW, hOW⟩
                   obtain ⟨y0, y1, y2, y3, y4⟩ := hOW.five
                   go_wp2_with fail
                   refine ⟨rfl, ?_, rfl⟩
                   try simp only [Act.put, List.setIfInBounds_toArray, List.set_cons_succ, List.set_cons_zero]
                   rfl
                 simp only [Act.put, List.setIfInBounds_toArray, List.set_cons_succ, List.set_cons_zero])
      refine Pu.WalkM.make (by rfl) ?_
      rintro W rfl
      have hm7 : GMap intK V2.drew Tryz.prog 3 mb m := HM.out
      refine wpList_put_g rfl (.tmp 38) (.tmp 41) (.tmp 42) _ rfl 3 _ keyedI Tryz.underlying78 rfl hm7 (by unfold maxLen; omega) _ (.agg #[.int .i64 d.od, .slice A1 d.wa.length c1, .slice A2 d.sh.length c2, .slice A3 d.ba.length c3, .map (some fb)]) _ rfl rfl hkey.out ?_
      intro W3 hM3 hg3
      have gb3 : W3.cell? ⟨b, 0, none⟩ = some (.map (some mb)) := hg3.cell gb (fun e => hne (Option.some.inj e))
      have hO73 := hO2.kept (w := V2) ⟨hg3.os, hg3.tape, hg3.output, hg3.size, hg3.block⟩ (fun e => by have := Option.some.inj e; omega)
      refine ⟨rfl, undef, _, (fun W => W = W3), rfl, rfl, (fun W h => by rw [h]; exact ⟨gb3, hO73⟩), (.inr (fun _ h => h)), Pu.WalkM.nil ?_⟩
      rintro W' rfl
      simp only [Act.put]
      have hg7 : V2.grownBy W' (some mb) := ⟨hg3.os, hg3.tape, hg3.output, hg3.size, hg3.block⟩
      have hB12 := Kept.of_below hb12 (Fr := fun i => i < V1.heap.size) fun i hi => hi
      have hMvN := unp_put (d := { d with fb := fb }) (B := V1.heap.size) HP.out HR.out HK2.out (hB12.sl I1.out (fun i _ hi => hi)) (hB12.sl I2.out (fun i _ hi => hi)) (hB12.sl I3.out (fun i _ hi => hi)) (by omega) (GMap.held HGM.out hB12 (by dsimp only; omega)) hfb hflo (by omega) (HEK.out.ok.fbs fb) (fun c hc => by have := HMX.out c hc; dsimp only; omega) hM3 hg7
      have hTN := HT2.out.kept hg7 (fun e => by have := Option.some.inj e; omega) (fun g e => by cases e; omega)
      have hBN := HB2.out.grown hg7 HB2.out.size (fun g e => by cases e; omega)
      have hsN := hg7.size
      clear hM3 hg3 gb gb3
      obtain ⟨y0, y1, y2, y3, y4⟩ := hO73.five
      go_wp2
      go_roundw
      case rel =>
        refine ⟨k + 1, d.od, acc ++ [{ d with fb := fb }], by omega, by go_num, rfl, by omega, by omega, by rw [HL1.out]; exact HLK.out.snoc d fb, by simp [hacc], fun x hx => ?_, HNX.out, hMvN, hTN, hBN, by omega⟩
        rcases List.mem_append.1 hx with hx | hx
        · have := HMX.out x hx; omega
        · rw [List.mem_singleton.1 hx]; exact Int.le_refl _
      case measure => simp [intOf]; omega
    · obtain rfl : k = ds.length := by omega
      have hd : decide ((ds.length : Int) < (ds.length : Int)) = false := by simp
      rw [List.drop_length] at hT
      rw [List.take_length] at hLk
      have cD := Lib.hid (tdone_calls bt bt _ wr hT)
      have hdn : doneOf (some (cellsR [])) = 0 := rfl
      rw [hdn] at cD
      have HMv := Lib.hid (fun X' (hX' : ∀ i, X' i → i < w.heap.size) => hP.fewer (X' := X') (fun i hi => HXw.out i (hX' i hi)))
      clear hT hP hdn
      go_wp2_with fail
      refine cD.out.mono ?_
      rintro e W1 ⟨rfl, rfl⟩
      go_wp2
      go_ret2
      exact ⟨⟨_, _, acc, rfl, hLk, HMv.out⟩, hB⟩
end Pc
end Go.Proofs.YtdbkkldgobkjcaaGreat

namespace Go.Proofs.YtdbkkldgobkjcaaGreat
open Go.ChangeShapes Go.WideShapes Go.Deep Go.RowKit Go.ChangeAt
namespace Pc
open It

/-- a call that a law of parcels makes -/
structure OpV where
  kd : Int
  od : Int
  rg : Int
  l : List It.Item
structure OkOp (o : OpV) : Prop where
  kd : -9223372036854775808 ≤ o.kd ∧ o.kd ≤ 9223372036854775807
  od : -9223372036854775808 ≤ o.od ∧ o.od ≤ 9223372036854775807
  rg : -9223372036854775808 ≤ o.rg ∧ o.rg ≤ 9223372036854775807
  l : Fits o.l
def opC (o : OpV) (lv : Value) : List Value := [.int .i64 o.kd, .int .i64 o.od, .int .i64 o.rg, lv]

set_option maxRecDepth 100000 in
theorem op_of_trod {H : Type} {enc : TypeId × Value → H} {W : World} {cs : List Value} {x : DataW H × List MemPlace} {held : Bool} {fuel : Nat} (hf : DataW.trod enc Tryz.prog W 0 (fun _ => true) held fuel 32 cs = some x) :
    ∃ (o : OpV) (lv : Value), cs = opC o lv ∧ OkOp o ∧ ItemsAt W 0 W.heap.size lv o.l := by
  obtain ⟨ys, n, hn, hy, hlen, hyl, hfs⟩ := DataW.trod_struct Tryz.underlying32 hf
  have hl5 : cs.length = 4 := hlen.trans (by kernel_rfl)
  obtain ⟨v0, v1, v2, v3, rfl⟩ : ∃ v0 v1 v2 v3, cs = [v0, v1, v2, v3] := by
    match cs, hl5 with
    | [a, b, c, d], _ => exact ⟨a, b, c, d, rfl⟩
  have one : ∀ t, t = 3 → Tryz.prog.cellsOf t = 1 := fun t e => by subst e; kernel_rfl
  have hys : ∀ j, j < 4 → ∃ y, ys[j]? = some y := fun j hj => ⟨_, List.getElem?_eq_getElem (by rw [hyl]; exact hj)⟩
  have int_of : ∀ (j : Nat) (f : Field) (v : Value), j < 4 → f.type = 3 → DataW.trod enc Tryz.prog W 0 (fun _ => true) held n f.type [v] = ys[j]? → ∃ k : Int, v = .int .i64 k ∧ -9223372036854775808 ≤ k ∧ k ≤ 9223372036854775807 := fun j f v hj hft h => by
    obtain ⟨y, hy⟩ := hys j hj
    rw [hy, hft] at h
    obtain ⟨k, e1, _, hk⟩ := DataW.trod_int Tryz.underlying3 h
    simp only [List.cons.injEq, and_true] at e1
    subst e1
    exact ⟨k, rfl, by simpa [Lit.wf, IntKind.min, IntKind.max, IntKind.signed, IntKind.bits] using hk⟩
  have fld := fun (j : Nat) (f : Field) hj => by
    obtain ⟨ho, hk⟩ := hone_of (P := Tryz.prog) (by kernel_rfl) j f hj
    have := hfs j f hj
    rw [ho, hk] at this
    exact this
  have g0 := fld 0 _ rfl
  have g1 := fld 1 _ rfl
  have g2 := fld 2 _ rfl
  have g3 := fld 3 _ rfl
  obtain ⟨k0, rfl, b0⟩ := int_of 0 _ v0 (by omega) rfl g0
  obtain ⟨k1, rfl, b1⟩ := int_of 1 _ v1 (by omega) rfl g1
  obtain ⟨k2, rfl, b2⟩ := int_of 2 _ v2 (by omega) rfl g2
  obtain ⟨y, hy4⟩ := hys 3 (by omega)
  rw [hy4] at g3
  obtain ⟨L, h1, h2, -⟩ := items_of_trod (v := v3) g3
  exact ⟨⟨k0, k1, k2, L⟩, v3, rfl, ⟨b0, b1, b2, h2⟩, h1⟩

set_option maxRecDepth 100000 in
theorem open_op {H : Type} {enc : TypeId × Value → H} {W : World} {base : Nat} {v : Value} {d : DataW H} {p : List MemPlace} {held : Bool} (hval : Value.okWide Tryz.prog W .any base 32 v)
    (h : DataW.Trod enc Tryz.prog W 0 (fun _ => true) held 32 v d p) :
    ∃ (o : OpV) (lv : Value), v = .agg (opC o lv).toArray ∧ OkOp o ∧ ItemsAt W 0 W.heap.size lv o.l := by
  obtain ⟨cs, rfl, -⟩ := okWide_struct Tryz.underlying32 hval
  obtain ⟨fuel, hf⟩ := h
  obtain ⟨o, lv, e, h1, h2⟩ := op_of_trod hf
  refine ⟨o, lv, ?_, h1, h2⟩
  congr 1
  rw [← e]
  simp [Value.cells]

/-- a slice of ops, all below B -/
def OpsAt (w : World) (B : Nat) (v : Value) (os : List OpV) : Prop :=
  ∃ A c, v = .slice A os.length c ∧ os.length ≤ c ∧ c ≤ maxLen ∧ ∀ j (h : j < os.length), ∃ b p lv, A = some ⟨b, p, none⟩ ∧ b < B ∧ ItemsAt w 0 B lv os[j].l ∧ ∀ i v, (opC os[j] lv)[i]? = some v → w.cell? ⟨b, p + j * 4 + i, none⟩ = some v
theorem OpsAt.below {w w' : World} {B : Nat} {v : Value} {os : List OpV} (h : OpsAt w B v os) (hb : Below B w w') : OpsAt w' B v os := by
  obtain ⟨A, c, e, h1, h2, h3⟩ := h
  refine ⟨A, c, e, h1, h2, fun j hj => ?_⟩
  obtain ⟨b, p, lv, ea, hbB, hI, hc⟩ := h3 j hj
  exact ⟨b, p, lv, ea, hbB, hI.below hb, fun i v hv => (hb.cell (p := ⟨b, p + j * 4 + i, none⟩) hbB).trans (hc i v hv)⟩
theorem OpsAt.form {w : World} {B : Nat} {v : Value} {os : List OpV} (h : OpsAt w B v os) : ∃ A c, v = .slice A os.length c ∧ os.length ≤ c ∧ c ≤ maxLen := by
  obtain ⟨A, c, e, h1, h2, -⟩ := h
  exact ⟨A, c, e, h1, h2⟩
theorem OpsAt.at_ {w : World} {B n c j : Nat} {A : Option Addr} {os : List OpV} (h : OpsAt w B (.slice A n c) os) (hj : j < os.length) : ∃ b p lv, A = some ⟨b, p, none⟩ ∧ b < B ∧ ItemsAt w 0 B lv os[j].l ∧
    w.cell? ⟨b, p + j * 4, none⟩ = some (.int .i64 os[j].kd) ∧ w.cell? ⟨b, p + j * 4 + 1, none⟩ = some (.int .i64 os[j].od) ∧ w.cell? ⟨b, p + j * 4 + 2, none⟩ = some (.int .i64 os[j].rg) ∧ w.cell? ⟨b, p + j * 4 + 3, none⟩ = some lv := by
  obtain ⟨A', c', e, h1, h2, h3⟩ := h
  cases e
  obtain ⟨b, p, lv, ea, hbB, hI, hc⟩ := h3 j hj
  exact ⟨b, p, lv, ea, hbB, hI, hc 0 _ rfl, hc 1 _ rfl, hc 2 _ rfl, hc 3 _ rfl⟩

set_option maxRecDepth 100000 in
/-- an argument that is a slice of ops -/
theorem open_ops {H : Type} {enc : TypeId × Value → H} {W : World} {base : Nat} {v : Value} {d : DataW H} {p : List MemPlace} {held : Bool} (hval : Value.okWide Tryz.prog W .any base 22 v)
    (h : DataW.Trod enc Tryz.prog W 0 (fun _ => true) held 22 v d p) :
    ∃ os : List OpV, OpsAt W W.heap.size v os ∧ (∀ o ∈ os, OkOp o) ∧ ((d = .nil ∧ os = []) ∨ ∃ es sp, d = .slice es sp ∧ es.length = os.length) := by
  obtain ⟨A, n, c, rfl⟩ := okWide_slice Tryz.underlying22 hval
  obtain ⟨fuel, hf⟩ := h
  have hC : Tryz.prog.cellsOf 32 = 4 := by kernel_rfl
  rcases open_slice Tryz.underlying22 hf with h0 | ⟨a, len, cap, m, k, D, Pl, hcs, hb, hl, hm, hmm, hx, hi⟩
  · obtain ⟨h1, h2⟩ := h0
    simp only [Value.cells, List.cons.injEq, and_true] at h1
    cases h1
    simp only [Prod.mk.injEq] at h2
    exact ⟨[], ⟨none, 0, rfl, Nat.le_refl _, by unfold maxLen; omega, fun j hj => by simp at hj⟩, (fun x hx => by cases hx), .inl ⟨h2.1, rfl⟩⟩
  · simp only [Value.cells, List.cons.injEq, and_true] at hcs
    cases hcs
    simp only [if_true] at hmm
    subst hmm
    simp only [Prod.mk.injEq] at hx
    rw [hC] at hi
    have hel : ∀ i, i < n → ∃ x : OpV, OkOp x ∧ ∃ lv, ItemsAt W 0 W.heap.size lv x.l ∧ ∀ j v, (opC x lv)[j]? = some v → W.cell? (a.add (i * 4 + j)) = some v := by
      intro i hin
      obtain ⟨cs', hc, ht'⟩ := hi i (by omega)
      obtain ⟨_, hcl, hat⟩ := World.cells?_some hc
      obtain ⟨o, lv, e, h1, h2⟩ := op_of_trod ht'
      refine ⟨o, h1, lv, h2, fun j v hv => ?_⟩
      have hj : j < 4 := by
        have := (List.getElem?_eq_some_iff.1 hv).1
        simpa [opC] using this
      have hcell := hat (i := j) (by omega)
      rw [← Go.Deep.add_add, hcell, e]
      exact hv
    obtain ⟨os, hLn, hL⟩ := list_of n _ hel
    refine ⟨os, ?_, fun x hx => ?_, .inr ⟨_, _, hx.1, by simp [hLn]⟩⟩
    · subst hLn
      refine ⟨_, _, rfl, hl, hm, fun j hj => ?_⟩
      obtain ⟨_, lv, hI, hc⟩ := hL j hj
      obtain ⟨_, lv0, -, hc0⟩ := hL 0 (by omega)
      have h1 := cell_addr (hc0 0 _ rfl)
      obtain ⟨b, o, sp⟩ := a
      have hsp : sp = none := by
        have := h1.1
        unfold Addr.add at this
        simpa using this
      subst hsp
      have hb : b < W.heap.size := by
        have := h1.2
        rw [addr_add] at this
        exact this
      refine ⟨b, o, lv, rfl, hb, hI, fun i v hv => ?_⟩
      have := hc i v hv
      rw [addr_add] at this
      rw [← this]
      congr 2
      omega
    · obtain ⟨i, hi, rfl⟩ := List.getElem_of_mem hx
      exact (hL i hi).1
end Pc
end Go.Proofs.YtdbkkldgobkjcaaGreat

namespace Go.Proofs.YtdbkkldgobkjcaaGreat
open Go.RowKit Go.Maps
namespace Pc
open It Mv Ce

theorem docs_ok {ds : List Row} {es : List DR} (he : es.map (·.d) = ds) (h : ∀ d ∈ ds, OkR d) : ∀ p ∈ es, OkR p.d := fun p hp => h p.d (by rw [← he]; exact List.mem_map.2 ⟨p, hp, rfl⟩)
theorem St.short {w : World} {b mb xb : Nat} {Z : Nat → Prop} {W : World} {ds : List Row} {es : List DR} (h : St w b mb xb Z W ds es) : es.length ≤ 1099511627776 := by
  have := h.pc.len
  rw [← h.map] at this
  simpa using this
set_option maxRecDepth 100000 in
set_option maxHeartbeats 8000000 in
theorem do_calls (w : World) (b mb xb : Nat) (Z : Nat → Prop) (W : World) (ds : List Row) (es : List DR) (hS : St w b mb xb Z W ds es) (hz : ∀ i, Z i → w.heap.size ≤ i) (hsh : ShE ds) (kd od rg : Int) (l : List It.Item) (lv : Value) (hI : ItemsAt w 0 w.heap.size lv l) (hok : OkOp ⟨kd, od, rg, l⟩) :
    Calls Tryz.prog 37 #[.pointer (some ⟨b, 0, none⟩), .pointer (some ⟨xb, 0, none⟩), .agg #[.int .i64 kd, .int .i64 od, .int .i64 rg, lv]] W fun e w' => e = .returned (.tuple #[]) ∧ ∃ ds2 es2, St w b mb xb Z w' ds2 es2 ∧ ShE ds2 ∧ ds2.length ≤ ds.length + 1 ∧ Kept (fun i => i < W.heap.size ∧ i ≠ xb ∧ ¬ Yof mb ds i) W w' := by
  obtain ⟨Al, cl, rfl, hcl1, hcl2⟩ := hI.form
  have hB := hS.below
  have hal1 := (Below.refl W.heap.size W).alloc (Nat.le_refl _) (.cells #[.int .i64 kd, .int .i64 od, .int .i64 rg, .slice Al l.length cl] 32)
  have HS := Lib.hid (hS.same hal1)
  have HI0 := Lib.hid (fun V (h : Below w.heap.size w V) => (hI.mono h (Nat.le_refl _) : ItemsAt V 0 w.heap.size (.slice Al l.length cl) l))
  have HIW := Lib.hid ((HI0.out _ HS.out.below).wide (Nat.zero_le _) HS.out.below.size)
  have hO := Ob.new W 32 #[.int .i64 kd, .int .i64 od, .int .i64 rg, .slice Al l.length cl]
  have HOTH := Lib.hid (fun (i : Nat) (hi : Yof mb ds i) => (hS.pc.y hi).1)
  have hxl : xb < W.heap.size := by obtain ⟨v, hx, -⟩ := hS.doc.ob; exact hx.lt
  have hxb := hS.xlo
  have HSH := Lib.hid hsh
  have HOK := Lib.hid hok
  have HZL := Lib.hid hz
  have HK0 := Lib.hid (Kept.of_below hal1 (Fr := fun i => i < W.heap.size ∧ i ≠ xb ∧ ¬ Yof mb ds i) fun i hi => hi.1)
  have hws : W.heap.size ≤ (W.alloc (.cells #[.int .i64 kd, .int .i64 od, .int .i64 rg, .slice Al l.length cl] 32)).heap.size := hal1.size
  clear hB hS hI hal1 hsh hok hz
  obtain ⟨q0, q1, q2, q3⟩ := hO.four
  go_enter Tryz.func37, Tryz.ntmps37
  by_cases e1 : kd = 1
  · subst e1
    have CG := Lib.hid (open_calls od l (.slice Al l.length cl) w.heap.size b mb _ ds _ HS.out.pc HIW.out HOK.out.l HOK.out.od.1 HOK.out.od.2 HS.out.below.size)
    go_wp2_with fail
    refine CG.out.mono ?_
    rintro e W2 ⟨⟨fb, rfl, hP2, hfb⟩, ho2⟩
    obtain ⟨hB2, hD2, hL2⟩ := HS.out.call ho2 hP2 (open_fb hfb) HZL.out
    have HK2 := Lib.hid (HK0.out.trans (ho2.kept (Fr := fun i => i < W.heap.size ∧ i ≠ xb ∧ ¬ Yof mb ds i) fun i hi => ⟨by omega, hi.2.2⟩))
    have hO2 := ho2.ob hO (fun e => by have := HOTH.out _ (.inl rfl); omega) (fun d hd e => by have := HOTH.out _ (.inr ⟨d, hd, rfl⟩); omega)
    have hSO := HS.out.pc.sorted
    have hLE := HS.out.short
    have hOD := docs_ok HS.out.map HS.out.pc.ok
    rw [← HS.out.map] at hSO
    have cR := refopen_calls od l (.slice Al l.length cl) fb xb w.heap.size _ es W2 hD2 hSO hB2.size hxb (hL2 _ _ (HI0.out _ hB2)) HOK.out.l hLE
    rw [HS.out.map] at cR
    have CR := Lib.hid cR
    have HP2 := Lib.hid hP2
    have HB2 := Lib.hid hB2
    have HSH2 := Lib.hid (show ShE (openOf ds od l fb).1 from HSH.out.opens)
    have HLN := Lib.hid (show (openOf ds od l fb).1.length ≤ ds.length + 1 from open_len)
    clear cR hSO hLE hOD hD2 hL2 hP2 ho2 hB2 CG q0 q1 q2 q3
    obtain ⟨q0, q1, q2, q3⟩ := hO2.four
    generalize openOf ds od l fb = R at *
    obtain ⟨ds2, ac⟩ := R
    dsimp only at HP2 CR HSH2 HLN
    go_wp2_with fail
    refine CR.out.mono ?_
    rintro e W3 ⟨es2, rfl, he2, hD3, hg3⟩
    have HS3 := Lib.hid (St.fin hxb HB2.out HP2.out hD3 hg3 he2)
    have HK3 := Lib.hid (HK2.out.trans (Kept.of_grown hg3 (Fr := fun i => i < W.heap.size ∧ i ≠ xb ∧ ¬ Yof mb ds i) fun i hi => ⟨by have := HK2.out.size; omega, fun e => hi.2.1 (Option.some.inj e)⟩))
    clear hD3 hg3 he2
    go_wp2
    go_end0
    exact ⟨rfl, ds2, es2, HS3.out, HSH2.out, HLN.out, HK3.out⟩
  · have e1b : (kd == 1) = false := by simpa using e1
    by_cases e2 : kd = 2
    · subst e2
      clear e1 e1b
      have CG := Lib.hid (ship_calls od rg l (.slice Al l.length cl) w.heap.size b mb _ ds _ HS.out.pc HIW.out HOK.out.l HOK.out.od.1 HOK.out.od.2)
      go_wp2_with fail
      refine CG.out.mono ?_
      rintro e W2 ⟨rfl, hP2, ho2⟩
      obtain ⟨hB2, hD2, hL2⟩ := HS.out.call ho2 hP2 ship_fb HZL.out
      have HK2 := Lib.hid (HK0.out.trans (ho2.kept (Fr := fun i => i < W.heap.size ∧ i ≠ xb ∧ ¬ Yof mb ds i) fun i hi => ⟨by omega, hi.2.2⟩))
      have hO2 := ho2.ob hO (fun e => by have := HOTH.out _ (.inl rfl); omega) (fun d hd e => by have := HOTH.out _ (.inr ⟨d, hd, rfl⟩); omega)
      have hSO := HS.out.pc.sorted
      have hLE := HS.out.short
      have hOD := docs_ok HS.out.map HS.out.pc.ok
      rw [← HS.out.map] at hSO
      have cR := refship_calls od rg l (.slice Al l.length cl) xb w.heap.size _ es W2 hD2 hSO hB2.size (hL2 _ _ (HI0.out _ hB2)) HOK.out.l hOD hLE
      rw [HS.out.map] at cR
      have CR := Lib.hid cR
      have HP2 := Lib.hid hP2
      have HB2 := Lib.hid hB2
      have HSH2 := Lib.hid (show ShE (shipOf ds od rg l).1 from HSH.out.ship)
      have HLN := Lib.hid (show (shipOf ds od rg l).1.length ≤ ds.length + 1 from ship_len)
      clear cR hSO hLE hOD hD2 hL2 hP2 ho2 hB2 CG q0 q1 q2 q3
      obtain ⟨q0, q1, q2, q3⟩ := hO2.four
      generalize shipOf ds od rg l = R at *
      obtain ⟨ds2, ac⟩ := R
      dsimp only at HP2 CR HSH2 HLN
      go_wp2_with fail
      refine CR.out.mono ?_
      rintro e W3 ⟨es2, rfl, he2, hD3, hg3⟩
      have HS3 := Lib.hid (St.fin hxb HB2.out HP2.out hD3 hg3 he2)
      have HK3 := Lib.hid (HK2.out.trans (Kept.of_grown hg3 (Fr := fun i => i < W.heap.size ∧ i ≠ xb ∧ ¬ Yof mb ds i) fun i hi => ⟨by have := HK2.out.size; omega, fun e => hi.2.1 (Option.some.inj e)⟩))
      clear hD3 hg3 he2
      go_wp2
      go_end0
      exact ⟨rfl, ds2, es2, HS3.out, HSH2.out, HLN.out, HK3.out⟩
    · have e2b : (kd == 2) = false := by simpa using e2
      by_cases e3 : kd = 3
      · subst e3
        clear e1 e1b e2 e2b
        have CG := Lib.hid (back_calls od l (.slice Al l.length cl) w.heap.size b mb _ ds _ HS.out.pc HIW.out HOK.out.l HOK.out.od.1 HOK.out.od.2)
        go_wp2_with fail
        refine CG.out.mono ?_
        rintro e W2 ⟨rfl, hP2, ho2⟩
        obtain ⟨hB2, hD2, hL2⟩ := HS.out.call ho2 hP2 back_fb HZL.out
        have HK2 := Lib.hid (HK0.out.trans (ho2.kept (Fr := fun i => i < W.heap.size ∧ i ≠ xb ∧ ¬ Yof mb ds i) fun i hi => ⟨by omega, hi.2.2⟩))
        have hO2 := ho2.ob hO (fun e => by have := HOTH.out _ (.inl rfl); omega) (fun d hd e => by have := HOTH.out _ (.inr ⟨d, hd, rfl⟩); omega)
        have hSO := HS.out.pc.sorted
        have hLE := HS.out.short
        have hOD := docs_ok HS.out.map HS.out.pc.ok
        rw [← HS.out.map] at hSO
        have cR := refback_calls od l (.slice Al l.length cl) xb w.heap.size _ es W2 hD2 hSO hB2.size (hL2 _ _ (HI0.out _ hB2)) HOK.out.l hOD hLE
        rw [HS.out.map] at cR
        have CR := Lib.hid cR
        have HP2 := Lib.hid hP2
        have HB2 := Lib.hid hB2
        have HSH2 := Lib.hid (show ShE (backOf ds od l).1 from HSH.out.back)
        have HLN := Lib.hid (show (backOf ds od l).1.length ≤ ds.length + 1 from back_len)
        clear cR hSO hLE hOD hD2 hL2 hP2 ho2 hB2 CG q0 q1 q2 q3
        obtain ⟨q0, q1, q2, q3⟩ := hO2.four
        generalize backOf ds od l = R at *
        obtain ⟨ds2, ac⟩ := R
        dsimp only at HP2 CR HSH2 HLN
        go_wp2_with fail
        refine CR.out.mono ?_
        rintro e W3 ⟨es2, rfl, he2, hD3, hg3⟩
        have HS3 := Lib.hid (St.fin hxb HB2.out HP2.out hD3 hg3 he2)
        have HK3 := Lib.hid (HK2.out.trans (Kept.of_grown hg3 (Fr := fun i => i < W.heap.size ∧ i ≠ xb ∧ ¬ Yof mb ds i) fun i hi => ⟨by have := HK2.out.size; omega, fun e => hi.2.1 (Option.some.inj e)⟩))
        clear hD3 hg3 he2
        go_wp2
        go_end0
        exact ⟨rfl, ds2, es2, HS3.out, HSH2.out, HLN.out, HK3.out⟩
      · have e3b : (kd == 3) = false := by simpa using e3
        by_cases e4 : kd = 4
        · subst e4
          clear e1 e1b e2 e2b e3 e3b
          have CG := Lib.hid (undo_calls od l (.slice Al l.length cl) w.heap.size b mb _ ds _ HS.out.pc HIW.out HOK.out.l HOK.out.od.1 HOK.out.od.2)
          go_wp2_with fail
          refine CG.out.mono ?_
          rintro e W2 ⟨rfl, hP2, ho2⟩
          obtain ⟨hB2, hD2, hL2⟩ := HS.out.call ho2 hP2 undo_fb HZL.out
          have HK2 := Lib.hid (HK0.out.trans (ho2.kept (Fr := fun i => i < W.heap.size ∧ i ≠ xb ∧ ¬ Yof mb ds i) fun i hi => ⟨by omega, hi.2.2⟩))
          have hO2 := ho2.ob hO (fun e => by have := HOTH.out _ (.inl rfl); omega) (fun d hd e => by have := HOTH.out _ (.inr ⟨d, hd, rfl⟩); omega)
          have hSO := HS.out.pc.sorted
          have hLE := HS.out.short
          have hOD := docs_ok HS.out.map HS.out.pc.ok
          rw [← HS.out.map] at hSO
          have cR := refundo_calls od l (.slice Al l.length cl) xb w.heap.size _ es W2 hD2 hSO hB2.size (hL2 _ _ (HI0.out _ hB2)) HOK.out.l hOD hLE
          rw [HS.out.map] at cR
          have CR := Lib.hid cR
          have HP2 := Lib.hid hP2
          have HB2 := Lib.hid hB2
          have HSH2 := Lib.hid (show ShE (undoOf ds od l).1 from HSH.out.undo)
          have HLN := Lib.hid (show (undoOf ds od l).1.length ≤ ds.length + 1 from undo_len)
          clear cR hSO hLE hOD hD2 hL2 hP2 ho2 hB2 CG q0 q1 q2 q3
          obtain ⟨q0, q1, q2, q3⟩ := hO2.four
          generalize undoOf ds od l = R at *
          obtain ⟨ds2, ac⟩ := R
          dsimp only at HP2 CR HSH2 HLN
          go_wp2_with fail
          refine CR.out.mono ?_
          rintro e W3 ⟨es2, rfl, he2, hD3, hg3⟩
          have HS3 := Lib.hid (St.fin hxb HB2.out HP2.out hD3 hg3 he2)
          have HK3 := Lib.hid (HK2.out.trans (Kept.of_grown hg3 (Fr := fun i => i < W.heap.size ∧ i ≠ xb ∧ ¬ Yof mb ds i) fun i hi => ⟨by have := HK2.out.size; omega, fun e => hi.2.1 (Option.some.inj e)⟩))
          clear hD3 hg3 he2
          go_wp2
          go_end0
          exact ⟨rfl, ds2, es2, HS3.out, HSH2.out, HLN.out, HK3.out⟩
        · have e4b : (kd == 4) = false := by simpa using e4
          clear e1 e2 e3 e4
          go_wp2
          go_end0
          exact ⟨rfl, ds, es, HS.out, HSH.out, by omega, HK0.out⟩
end Pc
end Go.Proofs.YtdbkkldgobkjcaaGreat
