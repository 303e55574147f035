/-
  items: what the law Norms says is true.
-/
import Derived.Test.YtloabanhoeaidaaItX
namespace Go.Proofs.Ytloabanhoeaidaa
open Go.RowKit Go.Maps
namespace It

theorem norms_ok {L : List Item} (h : (normRes L).2 = 0) : M (normRes L).1 ∧ (may L = true → (normRes L).1 = L) := by
  unfold normRes at h ⊢
  by_cases hs : sumsCode L = 0
  · rw [if_pos hs] at h ⊢
    by_cases hl : (normL L).length ≤ 16
    · rw [if_pos hl] at h ⊢
      have hs2 := hs
      unfold sumsCode at hs2
      cases ho : L.all okC with
      | false => rw [ho] at hs2; simp at hs2
      | true =>
        cases hv : over L with
        | true => rw [ho, hv] at hs2; simp at hs2
        | false =>
          refine ⟨normL_M (fun x hx => ?_) (tot_le hv) hl, fun hm => ?_⟩
          · have := List.all_eq_true.1 ho x hx
            unfold okC at this
            rw [Bool.and_eq_true] at this
            exact this.1
          · have hM := (may_iff L).1 hm
            exact normL_of (M.norm hM.sorted (fun x hx => by have := hM.ok x hx; omega) (fun _ => rfl))
    · rw [if_neg hl] at h
      simp at h
  · rw [if_neg hs] at h
    exact absurd h hs

set_option maxRecDepth 100000 in
set_option maxHeartbeats 8000000 in
theorem norms_law (L : List Item) (g : ByteArray) (v : Value) (w : World) (hI : ItemsAt w 0 w.heap.size v L) (hF : Fits L) (hg : g.size ≤ maxLen) :
    Calls Try.prog 6 #[v, .string g] w fun e w' => e = .returned (.bool true) ∧ Below w.heap.size w w' := by
  have HI := Lib.hid (fun W (h : Below w.heap.size w W) => hI.mono h h.size)
  have cMy := Lib.hid (fun W h => may_calls L v W (HI.out W h) hF)
  have crM := Lib.hid (fun W h => refmay_calls L v W (HI.out W h) hF)
  have cG := Lib.hid (fun W => good_calls g W hg)
  have crG := Lib.hid (fun W => refgood_calls g W hg)
  have cO := Lib.hid (fun W h => of_calls L g v W (HI.out W h))
  have crO := Lib.hid (fun W h => refof_calls L g v W (HI.out W h))
  have cT := Lib.hid (fun W h => total_calls L v W (HI.out W h))
  have cL := Lib.hid lives_calls
  have hB : Below w.heap.size w w := Below.refl _ _
  obtain ⟨A, c, rfl, hc1, hc2⟩ := hI.form
  unfold maxLen at hc2
  by_cases hbig : 100 < L.length
  · have h1 : decide ((L.length : Int) > 100) = true := by simp; omega
    clear hbig
    go_enter Try.func6, Try.ntmps6
    go_wp2_with fail
    refine (cL.out _).mono ?_
    rintro e W ⟨rfl, hb1⟩
    have hB := hB.trans (hb1.mono hB.size)
    clear hb1
    go_wp2
    go_ret
    exact ⟨rfl, hB⟩
  have hla : L.length ≤ 100 := by omega
  have hda : decide ((L.length : Int) > 100) = false := by simp; omega
  clear hbig
  have cN := Lib.hid (fun v W h => norm_calls L v W h hF (by omega))
  have crN := Lib.hid (fun W h => refnorm_calls L (.slice A L.length c) W (HI.out W h) hF (by omega))
  have HOK := Lib.hid (fun h => norms_ok (L := L) h)
  have HTS := Lib.hid (fun (k : Nat) (h : k < L.length) => show totSum (L.take (k + 1)) = wrap64 (totSum (L.take k) + L[k].2) by rw [List.take_succ_eq_append_getElem h, totSum_snoc]; rfl)
  obtain ⟨i0, hi0, hz0⟩ := Option.map_eq_some_iff.1 item_info
  simp only [Prod.mk.injEq] at hz0
  obtain ⟨hz0, hz1, hz2⟩ := hz0
  generalize normRes L = R at *
  obtain ⟨r, re⟩ := R
  dsimp only at cN crN HOK
  generalize hmy : may L = my at *
  generalize good g = gd at *
  generalize ofSum g L = os at *
  go_enter Try.func6, Try.ntmps6
  go_wp2_with (at_builtin
               refine wpList_append_sl _ rfl (.tmp 16) (.tmp 17) _ rfl w.heap.size 36 i0 _ 2 24 Try.underlying22 hi0 hz0 hz1 hz2 rfl (by omega) (.slice (some ⟨w.heap.size, 0, none⟩) 0 0) 0 [] rfl (World.ownsRow_lit w #[] 0 (Nat.le_refl _) (Nat.zero_le _) rfl) 0 w.heap.size _ L.length (itemCells L) rfl (Sl.below hI ((Below.refl _ w).alloc (Nat.le_refl _) _)) (itemCells_one L) (by unfold maxLen; omega) (by omega) (by simp) ?_
               intro v1 w1 hv1 hg1 hat1
               have hB : Below w.heap.size w w1 := ((Below.refl _ w).alloc (Nat.le_refl _) (.cells #[] 36)).grown hg1 (by simp) (fun g hg => by cases hg; exact Nat.le_refl _)
               clear hg1 hat1)
  have hown : w1.ownsRow w.heap.size 36 2 v1 L.length (itemCells L) := by simpa using hv1
  have hx1 := toAt hown
  obtain ⟨A1, c1, rfl, -⟩ := hx1.form
  clear hv1 hown
  refine (cN.out _ _ hx1).mono ?_
  rintro e W2 ⟨⟨v2, rfl, hv⟩, hb1⟩
  have hB := hB.trans (hb1.mono hB.size)
  have hx1 := hx1.mono hb1 hb1.size
  have hx2 := toAt hv
  obtain ⟨A2, c2, rfl, -⟩ := hx2.form
  clear hb1 hv
  go_wp2_with fail
  refine (crN.out _ hB).mono ?_
  rintro e W3 ⟨⟨v3, rfl, hv⟩, hb1⟩
  have hB := hB.trans (hb1.mono hB.size)
  have hx1 := hx1.mono hb1 hb1.size
  have hx2 := hx2.mono hb1 hb1.size
  have hx3 := toAt hv
  obtain ⟨A3, c3, rfl, -⟩ := hx3.form
  clear hb1 hv
  have hI3 := HI.out _ hB
  go_wp2
  go_loop [10, 11] (fun t i => ∃ k : Nat, k ≤ L.length ∧ i = .int .i64 k ∧ t = .int .i64 (totSum (L.take k))) (fun _ i => L.length - (intOf i).toNat)
  case atStart => exact ⟨0, by omega, rfl, rfl⟩
  case round =>
    obtain ⟨k, hk, rfl, rfl⟩ := hrel
    by_cases hlt : k < L.length
    · obtain ⟨b, o, rfl, -, hb, g1, g2⟩ := hI3.cellAt hlt
      have hd : decide ((k : Int) < (L.length : Int)) = true := by simp; omega
      have HS := Lib.hid (HTS.out k hlt)
      generalize L[k] = x at *
      obtain ⟨xs, xn⟩ := x
      dsimp only at g1 g2 HS
      generalize totSum (L.take k) = t at *
      go_wp2
      go_round
      case rel => exact ⟨k + 1, by omega, by go_num, by rw [HS.out]⟩
      case measure => simp [intOf]; omega
    · obtain rfl : k = L.length := by omega
      have hd : decide ((L.length : Int) < (L.length : Int)) = false := by simp
      rw [List.take_length]
      generalize totSum L = t at *
      have hC : Below W3.heap.size W3 W3 := Below.refl _ _
      have H1 := Lib.hid (fun W (h : Below W3.heap.size W3 W) => hx1.mono h h.size)
      have H2 := Lib.hid (fun W (h : Below W3.heap.size W3 W) => hx2.mono h h.size)
      have H3 := Lib.hid (fun W (h : Below W3.heap.size W3 W) => hx3.mono h h.size)
      have cS23 := Lib.hid (fun W h => refsame_calls r r _ _ W (H2.out W h) (H3.out W h))
      have cS1L := Lib.hid (fun W h h' => refsame_calls L L _ _ W (H1.out W h) (HI.out W h'))
      rw [same_true] at cS23 cS1L
      clear hx1 hx2 hx3 hI3
      by_cases hre : re = 0
      · have h0 := HOK.out hre
        have cMr := Lib.hid (fun W h => may_calls r _ W (H2.out W h) h0.1.fits)
        rw [(may_iff r).2 h0.1] at cMr
        have cS2L := Lib.hid (fun W h h' => refsame_calls r L _ _ W (H2.out W h) (HI.out W h'))
        have HS2 := Lib.hid (show my = true → decide (r = L) = true from fun h => decide_eq_true (h0.2 h))
        clear h0 HOK
        have hrb : (re != 0) = false := by rw [hre]; rfl
        clear hre
        generalize decide (r = L) = sm at *
        have hcs : my = false ∨ (my = true ∧ sm = true) := by
          cases my
          · exact .inl rfl
          · exact .inr ⟨rfl, HS2.out rfl⟩
        clear HS2 hmy
        have hoo : (os != os) = false := by simp
        have htt : (t != t) = false := by simp
        have hrr : (re != re) = false := by simp
        cases gd <;> rcases hcs with rfl | ⟨rfl, rfl⟩
        all_goals
          go_wp2_with (first
            | (go_at_call 11; first | (with_reducible refine (cL.out _).mono ?_)
               rintro e W ⟨rfl, hb1⟩
               have hB := hB.trans (hb1.mono hB.size)
               have hC := hC.trans (hb1.mono hC.size)
               clear hb1)
            | (go_at_call 20; first | (with_reducible refine (cS23.out _ hC).mono ?_) | (with_reducible refine (cS1L.out _ hC hB).mono ?_) | (with_reducible refine (cS2L.out _ hC hB).mono ?_)
               rintro e W ⟨rfl, hb1⟩
               have hB := hB.trans (hb1.mono hB.size)
               have hC := hC.trans (hb1.mono hC.size)
               clear hb1)
            | (go_at_call 24; first | (with_reducible refine (cMy.out _ hB).mono ?_) | (with_reducible refine (cMr.out _ hC).mono ?_)
               rintro e W ⟨rfl, hb1⟩
               have hB := hB.trans (hb1.mono hB.size)
               have hC := hC.trans (hb1.mono hC.size)
               clear hb1)
            | (go_at_call 17; first | (with_reducible refine (crM.out _ hB).mono ?_)
               rintro e W ⟨rfl, hb1⟩
               have hB := hB.trans (hb1.mono hB.size)
               have hC := hC.trans (hb1.mono hC.size)
               clear hb1)
            | (go_at_call 25; first | (with_reducible refine (cG.out _).mono ?_)
               rintro e W ⟨rfl, hb1⟩
               have hB := hB.trans (hb1.mono hB.size)
               have hC := hC.trans (hb1.mono hC.size)
               clear hb1)
            | (go_at_call 26; (with_reducible refine (crG.out _).mono ?_); rintro e W ⟨rfl, rfl⟩)
            | (go_at_call 27; first | (with_reducible refine (cO.out _ hB).mono ?_)
               rintro e W ⟨rfl, hb1⟩
               have hB := hB.trans (hb1.mono hB.size)
               have hC := hC.trans (hb1.mono hC.size)
               clear hb1)
            | (go_at_call 28; (with_reducible refine (crO.out _ hB).mono ?_); rintro e W ⟨rfl, rfl⟩)
            | (go_at_call 29; first | (with_reducible refine (cT.out _ hB).mono ?_)
               rintro e W ⟨rfl, hb1⟩
               have hB := hB.trans (hb1.mono hB.size)
               have hC := hC.trans (hb1.mono hC.size)
               clear hb1))
          go_ret
          exact ⟨rfl, hB⟩
      · have hrb : (re != 0) = true := by simpa using hre
        have hoo : (os != os) = false := by simp
        have htt : (t != t) = false := by simp
        have hrr : (re != re) = false := by simp
        clear hre HOK hmy
        cases gd <;> cases my
        all_goals
          go_wp2_with (first
            | (go_at_call 11; first | (with_reducible refine (cL.out _).mono ?_)
               rintro e W ⟨rfl, hb1⟩
               have hB := hB.trans (hb1.mono hB.size)
               have hC := hC.trans (hb1.mono hC.size)
               clear hb1)
            | (go_at_call 20; first | (with_reducible refine (cS23.out _ hC).mono ?_) | (with_reducible refine (cS1L.out _ hC hB).mono ?_)
               rintro e W ⟨rfl, hb1⟩
               have hB := hB.trans (hb1.mono hB.size)
               have hC := hC.trans (hb1.mono hC.size)
               clear hb1)
            | (go_at_call 24; first | (with_reducible refine (cMy.out _ hB).mono ?_)
               rintro e W ⟨rfl, hb1⟩
               have hB := hB.trans (hb1.mono hB.size)
               have hC := hC.trans (hb1.mono hC.size)
               clear hb1)
            | (go_at_call 17; first | (with_reducible refine (crM.out _ hB).mono ?_)
               rintro e W ⟨rfl, hb1⟩
               have hB := hB.trans (hb1.mono hB.size)
               have hC := hC.trans (hb1.mono hC.size)
               clear hb1)
            | (go_at_call 25; first | (with_reducible refine (cG.out _).mono ?_)
               rintro e W ⟨rfl, hb1⟩
               have hB := hB.trans (hb1.mono hB.size)
               have hC := hC.trans (hb1.mono hC.size)
               clear hb1)
            | (go_at_call 26; (with_reducible refine (crG.out _).mono ?_); rintro e W ⟨rfl, rfl⟩)
            | (go_at_call 27; first | (with_reducible refine (cO.out _ hB).mono ?_)
               rintro e W ⟨rfl, hb1⟩
               have hB := hB.trans (hb1.mono hB.size)
               have hC := hC.trans (hb1.mono hC.size)
               clear hb1)
            | (go_at_call 28; (with_reducible refine (crO.out _ hB).mono ?_); rintro e W ⟨rfl, rfl⟩)
            | (go_at_call 29; first | (with_reducible refine (cT.out _ hB).mono ?_)
               rintro e W ⟨rfl, hb1⟩
               have hB := hB.trans (hb1.mono hB.size)
               have hC := hC.trans (hb1.mono hC.size)
               clear hb1))
          go_ret
          exact ⟨rfl, hB⟩
end It
end Go.Proofs.Ytloabanhoeaidaa
