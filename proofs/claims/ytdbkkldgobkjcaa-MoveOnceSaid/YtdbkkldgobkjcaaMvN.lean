/-
  moves: the law Once.
-/
import Derived.Test.YtdbkkldgobkjcaaMvM
namespace Go.Proofs.Ytdbkkldgobkjcaa
open Go.RowKit Go.Maps
namespace Mv
open It

theorem zeroB (w : World) : (zeroValue 4).run Try.prog w = .ok (.bool false) w := by kernel_rfl
theorem zeroI (w : World) : (zeroValue 3).run Try.prog w = .ok (.int .i64 0) w := by kernel_rfl

set_option maxRecDepth 100000 in
set_option maxHeartbeats 8000000 in
theorem once_law (os : List OpV) (v : Value) (w : World) (hO : OpsAt w w.heap.size v os) (hok : ∀ o ∈ os, OkOp o) :
    Calls Try.prog 4 #[v] w fun e w' => e = .returned (.bool true) ∧ Below w.heap.size w w' := by
  obtain ⟨A, c, rfl, hc1, hc2⟩ := hO.form
  unfold maxLen at hc2
  have cL := Lib.hid lives_calls
  have hmm := @run_makeMap Try.prog
  go_enter Try.func4, Try.ntmps4
  go_wp2_with fail
  refine (new_calls w).mono ?_
  rintro e w1 ⟨⟨b, mb, rfl, hlb, hlm, hM⟩, h1⟩
  replace hM := hM (fun _ => False) (fun _ h => h.elim)
  go_wp2_with fail
  refine (cL.out w1).mono ?_
  rintro e w2 ⟨rfl, h2⟩
  have hM2 := hM.same h2
  have hB2 := h1.trans (h2.mono h1.size)
  clear hM h1 h2
  go_wp2
  have hB3 := (hB2.alloc hB2.size (.map #[] 0)).alloc (by have := hB2.size; simp; omega) (.map #[] 0)
  have hal := ((Below.refl w2.heap.size w2).alloc (Nat.le_refl _) (.map #[] 0)).alloc (by simp) (.map #[] 0)
  have hM3 : MvAt ((w2.alloc (.map #[] 0)).alloc (.map #[] 0)) b mb (fun i => i = w2.heap.size ∨ i = w2.heap.size + 1) [] := hM2.more hal fun i hi => ⟨.inr (by omega), by simp; omega⟩
  have hW3 : GMap intK ((w2.alloc (.map #[] 0)).alloc (.map #[] 0)) Try.prog 3 w2.heap.size [] := (GMap.made (K := intK) w2 Try.prog 3).below ((Below.refl (w2.heap.size + 1) _).alloc (by simp) _) (by omega)
  have hG3 : GMap intK ((w2.alloc (.map #[] 0)).alloc (.map #[] 0)) Try.prog 3 (w2.heap.size + 1) [] := by
    have := GMap.made (K := intK) (w2.alloc (.map #[] 0)) Try.prog 3
    rwa [World.size_alloc] at this
  have hlo : mb < w2.heap.size ∧ b < w2.heap.size := ⟨by obtain ⟨m, hm, _⟩ := hM2.map; exact hm.lt, hM2.ob.lt⟩
  have hws := hB2.size
  generalize (w2.alloc (.map #[] 0)).alloc (.map #[] 0) = w3 at *
  generalize w2.heap.size = wb at *
  have HM3 := Lib.hid hM3
  have HW3 := Lib.hid hW3
  have HG3 := Lib.hid hG3
  have HB3 := Lib.hid hB3
  clear hM3 hW3 hG3 hB3 hM2 hB2 hal hmm
  go_loopw [6] (fun i wr => ∃ (k : Nat) (ds : List Way) (mo mw : List (Int × Value)), k ≤ os.length ∧ k ≤ 200 ∧ i = .int .i64 k ∧ Below w.heap.size w wr ∧ MvAt wr b mb (fun i => i = wb ∨ i = wb + 1) ds ∧ GMap intK wr Try.prog 3 wb mw ∧ GMap intK wr Try.prog 3 (wb + 1) mo ∧ Once ds mo mw ∧ mw.length ≤ k ∧ mo.length ≤ k) (fun i _ => os.length - (intOf i).toNat)
  case atStart => exact ⟨0, [], [], [], by omega, by omega, rfl, HB3.out, HM3.out, HW3.out, HG3.out, Once.nil, by simp, by simp⟩
  case round =>
    obtain ⟨k, ds, mo, mw, hk, hk2, rfl, hB, hM, hW, hG, hR, hl1, hl2⟩ := hrel
    clear HM3 HW3 HG3 HB3
    by_cases hlt : k < os.length ∧ k < 200
    · obtain ⟨hlt, hlt2⟩ := hlt
      obtain ⟨bo, po, lv, rfl, hbo, hIo, g0, g1, g2, g3, g4⟩ := hO.at_ hlt
      replace g0 := (hB.cell (p := ⟨bo, po + k * 5, none⟩) hbo).trans g0
      replace g1 := (hB.cell (p := ⟨bo, po + k * 5 + 1, none⟩) hbo).trans g1
      replace g2 := (hB.cell (p := ⟨bo, po + k * 5 + 2, none⟩) hbo).trans g2
      replace g3 := (hB.cell (p := ⟨bo, po + k * 5 + 3, none⟩) hbo).trans g3
      replace g4 := (hB.cell (p := ⟨bo, po + k * 5 + 4, none⟩) hbo).trans g4
      have hoo := hok _ (List.getElem_mem hlt)
      generalize os[k] = o at *
      obtain ⟨kd, mv, fr, to_, l⟩ := o
      dsimp only at hIo g0 g1 g2 g3 g4
      have hOK := Lib.hid hoo
      obtain ⟨Al, cl, rfl, hcl1, hcl2⟩ := hIo.form
      unfold maxLen at hcl2
      have hd : decide ((k : Int) < (os.length : Int)) = true := by simp; omega
      have hd2 : decide ((k : Int) < 200) = true := by simp; omega
      have hal1 := (Below.refl wr.heap.size wr).alloc (Nat.le_refl _) (.cells #[.int .i64 kd, .int .i64 mv, .int .i64 fr, .int .i64 to_, .slice Al l.length cl] 32)
      have hB1 := hB.trans (hal1.mono hB.size)
      have hM1 := hM.same hal1
      have hW1 := hW.below hal1 hW.lt
      have hG1 := hG.below hal1 hG.lt
      have HI0 := Lib.hid (fun W (h : Below w.heap.size w W) => hIo.mono h h.size)
      have hI1 := HI0.out _ hB1
      have hbr := hM.ob.lt
      have hwr := hG.lt
      have hO7 := Ob.new wr 32 #[.int .i64 kd, .int .i64 mv, .int .i64 fr, .int .i64 to_, .slice Al l.length cl]
      have HB := Lib.hid hB1
      have HM := Lib.hid hM1
      have HW := Lib.hid hW1
      have HG := Lib.hid hG1
      have HR := Lib.hid hR
      have HI := Lib.hid hI1
      clear hB hM hW hG hR hoo hIo hB1 hM1 hW1 hG1 hI1 hal1
      by_cases hlong : 100 < l.length
      · have hd3 : decide ((l.length : Int) > 100) = true := by simp; omega
        go_wp2
        exact ⟨⟨k + 1, ds, mo, mw, by omega, by omega, by go_num, HB.out, HM.out, HW.out, HG.out, HR.out, by omega, by omega⟩, by simp [intOf]; omega⟩
      · have hd3 : decide ((l.length : Int) > 100) = false := by simp; omega
        have hkey := Lib.hid (keyI hOK.out.mv.1 hOK.out.mv.2)
        obtain ⟨q0, q1, q2, q3, q4⟩ := hO7.five
        by_cases e1 : kd = 1
        · subst e1
          have cG := Lib.hid (go_calls mv fr to_ l (.slice Al l.length cl) b mb _ ds _ HM.out HI.out hOK.out.l hOK.out.mv.1 hOK.out.mv.2)
          by_cases hcode : (goOf ds mv fr to_ l).2 = 0
          · obtain ⟨hgo, hnone⟩ := go_code hcode
            rw [hgo] at cG
            have hop := HR.out.op mv
            rw [go_open hnone] at hop
            have HOP := Lib.hid hop
            have HR2 := Lib.hid (HR.out.go (mv := mv) (fr := fr) (to_ := to_) (l := l))
            clear hcode hgo hnone hop
            go_wp2_with fail
            refine cG.out.mono ?_
            rintro e W2 ⟨rfl, hM2, hg2⟩
            have hO72 := hO7.kept hg2 (fun e => by have := Option.some.inj e; omega)
            have hB2 := below_far HB.out hg2 (Nat.le_refl _) hlm
            have hW2 := HW.out.kept hg2 (fun e => by have := Option.some.inj e; omega)
            have hG2 := HG.out.kept hg2 (fun e => by have := Option.some.inj e; omega)
            clear cG
            have HB2 := Lib.hid hB2
            have HM2 := Lib.hid hM2
            have HW2 := Lib.hid hW2
            have HG2 := Lib.hid hG2
            clear q0 q1 q2 q3 q4 hB2 hM2 hW2 hG2
            obtain ⟨q0, q1, q2, q3, q4⟩ := hO72.five
            have hlk := HG2.out.look (tm := 51) keyedI Try.underlying51 (zeroB W2) hkey.out
            rw [HOP.out] at hlk
            obtain ⟨W3, hput, hG3, hg3⟩ := HG2.out.put (tm := 51) keyedI Try.underlying51 (by unfold maxLen; omega) hkey.out (val := .bool true)
            have hO73 := hO72.kept hg3 (fun e => by have := Option.some.inj e; omega)
            have HG3 := Lib.hid hG3
            have HG23 := Lib.hid hg3
            have hwr3 := Nat.le_trans hg2.size hg3.size
            clear hG3 hg3
            go_wp2_with fail
            clear hlk hput q0 q1 q2 q3 q4
            have hB3 := below_far HB2.out HG23.out (Nat.le_refl _) (by omega)
            have hM3 := HM2.out.kept HG23.out (fun g e => by cases e; exact .inl (.inr rfl))
            have hW3 := HW2.out.kept HG23.out (fun e => by have := Option.some.inj e; omega)
            have hB3d := hB3.drew
            have hI3 := HI0.out _ hB3d
            obtain ⟨q0, q1, q2, q3, q4⟩ := hO73.five
            have q1d : W3.drew.cell? ⟨wr.heap.size, 1, none⟩ = some (.int .i64 mv) := q1
            have q4d : W3.drew.cell? ⟨wr.heap.size, 4, none⟩ = some (.slice Al l.length cl) := q4
            clear q0 q1 q2 q3 q4
            refine Pu.regionM [(0, false), (1, false), (2, false), (3, false), (4, false), (5, false), (6, true)] (fun W => W.cell? ⟨wr.heap.size, 1, none⟩ = some (.int .i64 mv) ∧ W.cell? ⟨wr.heap.size, 4, none⟩ = some (.slice Al l.length cl) ∧ ItemsAt W 0 W.heap.size (.slice Al l.length cl) l) hmx (by kernel_rfl) (by kernel_rfl) (by kernel_rfl) ⟨q1d, q4d, hI3⟩ rfl ?_
            simp only [Pu.named, List.filterMap_cons, List.filterMap_nil, List.getElem?_toArray, List.getElem?_cons_succ, List.getElem?_cons_zero, Option.map_some]
            iterate 5 (apply Pu.WalkM.on (by rfl)
                       · rintro W ⟨gW1, gW4, -⟩
                         go_wp2_with fail
                         refine ⟨rfl, ?_, rfl⟩
                         try simp only [Act.put, List.setIfInBounds_toArray, List.set_cons_succ, List.set_cons_zero]
                         rfl
                       simp only [Act.put, List.setIfInBounds_toArray, List.set_cons_succ, List.set_cons_zero])
            apply Pu.WalkM.on (by rfl)
            · rintro W ⟨-, -, hIW⟩
              go_wp2_with (go_at_call 25; refine (refof_calls l sa _ W hIW).mono ?_; rintro e W' ⟨rfl, rfl⟩)
              refine ⟨rfl, ?_, rfl⟩
              try simp only [Act.put, List.setIfInBounds_toArray, List.set_cons_succ, List.set_cons_zero]
              rfl
            simp only [Act.put, List.setIfInBounds_toArray, List.set_cons_succ, List.set_cons_zero]
            refine Pu.WalkM.make (by rfl) ?_
            rintro W rfl
            have hdn : W3.grownBy W3.drew none := only_of_below (Below.refl _ W3).drew none
            refine wpList_put_g rfl (.tmp 59) (.tmp 61) (.tmp 64) _ rfl 3 _ keyedI Try.underlying50 rfl (hW3.kept hdn (by simp)) (by unfold maxLen; omega) _ (.int .i64 (ofSum sa l)) _ rfl rfl hkey.out ?_
            intro W4 hW4 hg4
            have hO74 := (hO73.kept hdn (by simp)).kept hg4 (fun e => by have := Option.some.inj e; omega)
            have hB4 := below_far hB3d hg4 (Nat.le_refl _) (by omega)
            refine ⟨rfl, undef, _, (fun W => W = W4), rfl, rfl, (fun W h => by rw [h]; exact ⟨hO74.cell rfl, hO74.cell rfl, HI0.out _ hB4⟩), (fun _ h => h), Pu.WalkM.nil ?_⟩
            rintro W' rfl
            simp only [Act.put]
            have hM4 := (hM3.kept hdn (fun g e => by cases e)).kept hg4 (fun g e => by cases e; exact .inl (.inl rfl))
            have hG4 := (HG3.out.kept hdn (by simp)).kept hg4 (fun e => by have := Option.some.inj e; omega)
            have hlw := mPut_length_le (K := intK) mw mv (.int .i64 (ofSum sa l))
            have hlo2 := mPut_length_le (K := intK) mo mv (.bool true)
            clear hO73 hO74
            go_wp2
            exact ⟨⟨k + 1, _, _, _, by omega, by omega, by go_num, hB4, hM4, hW4, hG4, HR2.out, by omega, by omega⟩, by simp [intOf]; omega⟩
          · have hgo := go_same hcode
            have hcb : ((goOf ds mv fr to_ l).2 == 0) = false := by simpa using hcode
            rw [hgo] at cG
            generalize (goOf ds mv fr to_ l).2 = gc at *
            clear hcode hgo
            go_wp2_with fail
            refine cG.out.mono ?_
            rintro e W2 ⟨rfl, hM2, hg2⟩
            have hB2 := below_far HB.out hg2 (Nat.le_refl _) hlm
            have hW2 := HW.out.kept hg2 (fun e => by have := Option.some.inj e; omega)
            have hG2 := HG.out.kept hg2 (fun e => by have := Option.some.inj e; omega)
            clear q0 q1 q2 q3 q4
            go_wp2
            exact ⟨⟨k + 1, _, _, _, by omega, by omega, by go_num, hB2, hM2, hW2, hG2, HR.out, by omega, by omega⟩, by simp [intOf]; omega⟩
        · have e1b : (kd == 1) = false := by simpa using e1
          by_cases e2 : kd = 2
          · subst e2
            clear e1 e1b
            have cC := Lib.hid (come_calls mv b mb _ ds _ HM.out hOK.out.mv.1 hOK.out.mv.2)
            have hop := HR.out.op mv
            have hco := come_open ds mv
            have hcl := come_list (k := mv) HR.out
            have HR2 := Lib.hid (HR.out.come mv)
            have HOP := Lib.hid hop
            generalize comeOf ds mv = R at *
            obtain ⟨ds2, al, ac⟩ := R
            dsimp only at cC hco hcl HR2
            generalize openW ds mv = ow at *
            go_wp2_with fail
            refine cC.out.mono ?_
            rintro e W2 ⟨⟨av, rfl, hav⟩, hM2, hg2⟩
            have hO72 := hO7.kept hg2 (fun e => by have := Option.some.inj e; omega)
            have hB2 := below_far HB.out hg2 (Nat.le_refl _) hlm
            have hW2 := HW.out.kept hg2 (fun e => by have := Option.some.inj e; omega)
            have hG2 := HG.out.kept hg2 (fun e => by have := Option.some.inj e; omega)
            have hA2 := (ItemsAt.of_own hav).wide (lo' := 0) (Nat.zero_le _) (Nat.le_refl _)
            obtain ⟨Aa, ca, rfl, -⟩ := hA2.form
            have HB2 := Lib.hid hB2
            have HM2 := Lib.hid hM2
            have HW2 := Lib.hid hW2
            have HG2 := Lib.hid hG2
            have HA2 := Lib.hid hA2
            clear cC q0 q1 q2 q3 q4 hB2 hM2 hW2 hG2 hav hA2 hop
            go_wp2_with fail
            have hdn : W2.grownBy W2.drew none := only_of_below (Below.refl _ W2).drew none
            have hlk := (HG2.out.kept hdn (by simp)).look (tm := 51) keyedI Try.underlying51 (zeroB W2.drew) hkey.out
            rw [HOP.out] at hlk
            have q1d : W2.drew.cell? ⟨wr.heap.size, 1, none⟩ = some (.int .i64 mv) := hO72.cell (j := 1) rfl
            have hO7d : Ob W2.drew wr.heap.size 32 #[.int .i64 2, .int .i64 mv, .int .i64 fr, .int .i64 to_, .slice Al l.length cl] := hO72
            have cO := Lib.hid (refof_calls al sa _ W2.drew (HA2.out.mono (Below.refl _ W2).drew (Nat.le_refl _)))
            obtain ⟨W3, hput, hG3, hg3⟩ := (HG2.out.kept hdn (by simp)).put (tm := 51) keyedI Try.underlying51 (by unfold maxLen; omega) hkey.out (val := .bool false)
            have HG3 := Lib.hid hG3
            have HG23 := Lib.hid hg3
            clear hG3 hg3 hO72
            have hneq : ((ac == 0) != ow) = false := by rw [hco]; simp
            have hcs : (ow = false ∧ (ac == 0) = false) ∨ (ow = true ∧ ac = 0 ∧ (mGet mw mv).getD (.int .i64 0) = .int .i64 (ofSum sa al)) := by
              cases ow with
              | false => exact .inl ⟨rfl, hco⟩
              | true => exact .inr ⟨rfl, by simpa using hco, hcl rfl⟩
            clear hco hcl
            rcases hcs with ⟨rfl, hac⟩ | ⟨rfl, rfl, hwm⟩
            · simp only [Bool.bne_false] at hneq
              refine Pu.regionW (fun W' => W' = W2.drew) hmx (by kernel_rfl) (by kernel_rfl) rfl rfl ?_
              iterate 20 (first
                | (refine Pu.Walk.off (by rfl) ?_; simp only [Act.put, List.setIfInBounds_toArray, List.set_cons_succ, List.set_cons_zero])
                | (apply Pu.Walk.on (by rfl)
                   · rintro W' rfl
                     go_wp2_with fail
                     refine ⟨rfl, ?_, rfl⟩
                     try simp only [Act.put, List.setIfInBounds_toArray, List.set_cons_succ, List.set_cons_zero]
                     rfl
                   simp only [Act.put, List.setIfInBounds_toArray, List.set_cons_succ, List.set_cons_zero]))
              refine Pu.Walk.nil (fun W1 h1 => ?_)
              subst h1
              have hB3 := below_far HB2.out.drew HG23.out (Nat.le_refl _) (by omega)
              have hM3 := (HM2.out.kept hdn (fun g e => by cases e)).kept HG23.out (fun g e => by cases e; exact .inl (.inr rfl))
              have hW3 := (HW2.out.kept hdn (by simp)).kept HG23.out (fun e => by have := Option.some.inj e; omega)
              have hlo2 := mPut_length_le (K := intK) mo mv (.bool false)
              go_wp2
              exact ⟨⟨k + 1, _, _, _, by omega, by omega, by go_num, hB3, hM3, hW3, HG3.out, HR2.out, by omega, by omega⟩, by simp [intOf]; omega⟩
            · have hlk2 := (HW2.out.kept hdn (by simp)).look (tm := 50) keyedI Try.underlying50 (zeroI W2.drew) hkey.out
              rw [hwm] at hlk2
              clear hneq hwm
              refine Pu.regionW (fun W' => W' = W2.drew) hmx (by kernel_rfl) (by kernel_rfl) rfl rfl ?_
              iterate 20 (first
                | (refine Pu.Walk.off (by rfl) ?_; simp only [Act.put, List.setIfInBounds_toArray, List.set_cons_succ, List.set_cons_zero])
                | (apply Pu.Walk.on (by rfl)
                   · rintro W' rfl
                     go_wp2_with (go_at_call 25; refine cO.out.mono ?_; rintro e W' ⟨rfl, rfl⟩)
                     refine ⟨rfl, ?_, rfl⟩
                     try simp only [Act.put, List.setIfInBounds_toArray, List.set_cons_succ, List.set_cons_zero]
                     rfl
                   simp only [Act.put, List.setIfInBounds_toArray, List.set_cons_succ, List.set_cons_zero]))
              refine Pu.Walk.nil (fun W1 h1 => ?_)
              subst h1
              have hB3 := below_far HB2.out.drew HG23.out (Nat.le_refl _) (by omega)
              have hM3 := (HM2.out.kept hdn (fun g e => by cases e)).kept HG23.out (fun g e => by cases e; exact .inl (.inr rfl))
              have hW3 := (HW2.out.kept hdn (by simp)).kept HG23.out (fun e => by have := Option.some.inj e; omega)
              have hlo2 := mPut_length_le (K := intK) mo mv (.bool false)
              go_wp2
              exact ⟨⟨k + 1, _, _, _, by omega, by omega, by go_num, hB3, hM3, hW3, HG3.out, HR2.out, by omega, by omega⟩, by simp [intOf]; omega⟩
          · have e2b : (kd == 2) = false := by simpa using e2
            by_cases e3 : kd = 3
            · subst e3
              clear e1 e1b e2 e2b
              have cF := Lib.hid (forget_calls mv b mb _ ds _ HM.out hOK.out.mv.1 hOK.out.mv.2)
              have HR2 := Lib.hid (HR.out.forget mv)
              have hop := HR.out.op mv
              have hfc : (forgetOf ds mv).2 = 0 → openW ds mv = false := fun h => (forget_code h).1
              have HOP := Lib.hid hop
              generalize forgetOf ds mv = R at *
              obtain ⟨ds2, ac⟩ := R
              dsimp only at cF hfc HR2
              generalize openW ds mv = ow at *
              clear hop
              have hcs : (ac == 0) = false ∨ (ac = 0 ∧ ow = false) := by
                by_cases h : ac = 0
                · exact .inr ⟨h, hfc h⟩
                · exact .inl (by simpa using h)
              clear hfc
              rcases hcs with hac | ⟨rfl, rfl⟩
              · go_wp2_with fail
                refine cF.out.mono ?_
                rintro e W2 ⟨rfl, hM2, hg2⟩
                have hB2 := below_far HB.out hg2 (Nat.le_refl _) hlm
                have hW2 := HW.out.kept hg2 (fun e => by have := Option.some.inj e; omega)
                have hG2 := HG.out.kept hg2 (fun e => by have := Option.some.inj e; omega)
                clear q0 q1 q2 q3 q4
                go_wp2
                exact ⟨⟨k + 1, _, _, _, by omega, by omega, by go_num, hB2, hM2, hW2, hG2, HR2.out, by omega, by omega⟩, by simp [intOf]; omega⟩
              · go_wp2_with fail
                refine cF.out.mono ?_
                rintro e W2 ⟨rfl, hM2, hg2⟩
                have hO72 := hO7.kept hg2 (fun e => by have := Option.some.inj e; omega)
                have hB2 := below_far HB.out hg2 (Nat.le_refl _) hlm
                have hW2 := HW.out.kept hg2 (fun e => by have := Option.some.inj e; omega)
                have hG2 := HG.out.kept hg2 (fun e => by have := Option.some.inj e; omega)
                clear q0 q1 q2 q3 q4
                have q1 := hO72.cell (j := 1) (v := .int .i64 mv) rfl
                have hlk := hG2.look (tm := 51) keyedI Try.underlying51 (zeroB W2) hkey.out
                rw [HOP.out] at hlk
                have HG2 := Lib.hid hG2
                have HW2 := Lib.hid hW2
                clear hG2 hW2
                go_wp2
                exact ⟨⟨k + 1, _, _, _, by omega, by omega, by go_num, hB2, hM2, HW2.out, HG2.out, HR2.out, by omega, by omega⟩, by simp [intOf]; omega⟩
            · have e3b : (kd == 3) = false := by simpa using e3
              clear e1 e2 e3
              go_wp2
              exact ⟨⟨k + 1, _, _, _, by omega, by omega, by go_num, HB.out, HM.out, HW.out, HG.out, HR.out, by omega, by omega⟩, by simp [intOf]; omega⟩
    · have hcs : (decide ((k : Int) < (os.length : Int)) = false ∧ ¬ k < os.length) ∨ (decide ((k : Int) < (os.length : Int)) = true ∧ k < os.length ∧ decide ((k : Int) < 200) = false) := by
        by_cases h : k < os.length
        · exact .inr ⟨by simp; omega, h, by simp; omega⟩
        · exact .inl ⟨by simp; omega, h⟩
      have HB := Lib.hid hB
      clear hM hW hG hR hlt
      rcases hcs with ⟨h1, h2⟩ | ⟨h1, h2, h3⟩
      all_goals
        go_wp2
        go_ret
        exact ⟨rfl, HB.out⟩
end Mv
end Go.Proofs.Ytdbkkldgobkjcaa
