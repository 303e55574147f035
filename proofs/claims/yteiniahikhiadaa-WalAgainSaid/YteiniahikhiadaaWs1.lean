/-
  the log: the law Again.
  the row WalAgain.
-/
import Derived.Test.YteiniahikhiadaaWr1
import Derived.Test.YteiniahikhiadaaWn7

set_option linter.unusedVariables false
set_option linter.unusedSimpArgs false
namespace Go.Proofs.Yteiniahikhiadaa
open Go.RowKit Go.Maps
namespace Wa
open Ce Se It
theorem appendG_g {σ : Type} (wr : σ → Int → Blk → σ × Int) (D : σ) (L : Lg) (size : Nat) (b : List UInt8) : (appendG wr D L size b).2.1.g = L.g := by
  unfold appendG
  split
  · rfl
  split
  · rfl
  split
  · rfl
  dsimp only
  split <;> rfl
theorem Lay.openD {D : Dv} {n : Nat} {g : Int} {half : Nat} {es : List (List UInt8)} (h : Lay D n g half es) (hg : g + 1 < 9223372036854775808) :
    ∃ D', openD D = (D', some ⟨g + 1, 1 - half, es, es.length, false⟩, 0) ∧ Lay D' n (g + 1) (1 - half) es := by
  obtain ⟨h1, h2, h3⟩ := h.again hg
  refine ⟨_, ?_, h3⟩
  unfold Wa.openD
  rw [h.al.len]
  generalize openG writeD flushD lastD offD n D = r at *
  obtain ⟨r1, r2, r3⟩ := r
  dsimp only at h1 h2
  rw [h1, h2]
set_option maxRecDepth 100000 in
set_option maxHeartbeats 8000000 in
theorem again_law (l : List (List UInt8)) (lv : Value) (vals : List Value) (times : Int) (w : World) (hL : Sl w 0 w.heap.size 1 lv l.length vals) (hE : Ents w (fun i => i < w.heap.size) vals l) (ht : -9223372036854775808 ≤ times ∧ times ≤ 9223372036854775807) :
    Calls Try.prog 4 #[lv, .int .i64 times] w fun e w' => e = .returned (.bool true) ∧ Below w.heap.size w w' := by
  obtain ⟨Al, cl, rfl, hl1, hl2, -⟩ := hL.at_
  have cN := new_calls 60 w (by omega) (by omega)
  rw [show ((60 : Nat) : Int) = 60 from rfl] at cN
  have CN := Lib.hid cN
  by_cases h4 : 0 ≤ times ∧ times ≤ 12
  case neg =>
    have HLl := Lib.hid hL
    have HEl := Lib.hid hE
    have HT := Lib.hid ht
    clear hL hE ht cN
    go_enter Try.func4, Try.ntmps4
    go_wp2_with fail
    refine CN.out.mono ?_
    rintro e w1 ⟨⟨d, sb, mb, rfl, hD⟩, hB⟩
    clear hD
    by_cases h0 : times < 0
    · have hd0 : decide (times < 0) = true := by simpa using h0
      go_wp2_with fail
      refine (lives_calls w1).mono ?_
      rintro e w2 ⟨rfl, hb⟩
      have hB2 := hB.trans (hb.mono hB.size)
      go_wp2_with fail
      refine (lives_calls w2).mono ?_
      rintro e w3 ⟨rfl, hb3⟩
      go_wp2
      go_ret
      exact ⟨rfl, hB2.trans (hb3.mono hB2.size)⟩
    · have hd0 : decide (times < 0) = false := by simpa using h0
      have hd1 : decide (times > 12) = true := by simp; omega
      go_wp2_with fail
      refine (lives_calls w1).mono ?_
      rintro e w2 ⟨rfl, hb⟩
      have hB2 := hB.trans (hb.mono hB.size)
      go_wp2_with fail
      refine (lives_calls w2).mono ?_
      rintro e w3 ⟨rfl, hb3⟩
      go_wp2
      go_ret
      exact ⟨rfl, hB2.trans (hb3.mono hB2.size)⟩
  obtain ⟨m, rfl⟩ : ∃ m : Nat, times = m := ⟨times.toNat, by omega⟩
  obtain ⟨D1, p1, hLay⟩ := openD_new (n := 60) (by omega)
  have hd0 : decide ((m : Int) < 0) = false := by simp
  have hd1 : decide ((m : Int) > 12) = false := by simp; omega
  have hm12 : m ≤ 12 := by omega
  have HLl := Lib.hid hL
  have HEl := Lib.hid hE
  have HLay := Lib.hid hLay
  clear hL hE ht h4 hLay cN
  have hmx : Try.prog.follows .mixedOrders = true := by kernel_rfl
  go_enter Try.func4, Try.ntmps4
  go_wp2_with fail
  refine CN.out.mono ?_
  rintro e w1 ⟨⟨d, sb, mb, rfl, hD⟩, hB⟩
  go_wp2_with fail
  refine (lives_calls w1).mono ?_
  rintro e w1' ⟨rfl, hb1⟩
  have cO := open_calls (hD.same hb1)
  rw [p1] at cO
  have CO := Lib.hid cO
  have HLO := Lib.hid hD.lo
  have hB' := hB.trans (hb1.mono hB.size)
  clear cO hD hB hb1
  go_wp2_with fail
  refine CO.out.mono ?_
  rintro e w2 ⟨pv, rfl, -, hDv, -, hL⟩
  obtain ⟨b, X, Y, rfl, hLg, hY⟩ := hL _ rfl
  have hB2 : Below w.heap.size w w2 := hB'.trans (Dev.below hDv hB'.size (by have := HLO.out; omega))
  have HLg := Lib.hid hLg
  clear hL hLg hDv hB' CO hY p1
  go_wp2_with fail
  go_loopw [8] (fun i wr => ∃ (k : Nat) (D : Dv) (L : Lg) (X Y : Nat → Prop), i = .int .i64 k ∧ k ≤ l.length ∧ k ≤ 30 ∧ LgAt wr w.heap.size b d sb mb X Y D L ∧ Lay D 60 L.g L.half L.es ∧ L.fin = false ∧ L.g = 1 ∧ Below w.heap.size w wr) (fun i _ => 30 - (intOf i).toNat)
  case atStart => exact ⟨0, _, _, X, Y, rfl, by omega, by omega, HLg.out, HLay.out, rfl, rfl, hB2⟩
  case round =>
    obtain ⟨k, D, L, X, Y, rfl, hk, hk6, hLg, hLay, hfin, hg1, hB⟩ := hrel
    clear HLg HLay hB2
    by_cases hin : k < l.length ∧ k < 30
    case pos =>
      obtain ⟨hlt, hk60⟩ := hin
      have hd : decide ((k : Int) < (l.length : Int)) = true := by simp; omega
      have hd6 : decide ((k : Int) < 30) = true := by simp; omega
      obtain ⟨v, hv, hEv⟩ := HEl.out.get k hlt
      have hSr := Sl.below HLl.out hB
      obtain ⟨kb, ko, rfl, -, hkb, hck⟩ := slAt hSr hlt hv
      have hEw := hEv.kept (Kept.of_below hB fun i hi => hi)
      obtain ⟨Av, cv, rfl, hcv1, hcv2⟩ := hEw.bytes.form
      unfold maxLen at hcv2
      by_cases h100 : l[k].length ≤ 100
      case neg =>
        have hq : decide ((l[k].length : Int) ≤ 100) = false := by simp; omega
        have HLg := Lib.hid hLg
        have HLay := Lib.hid hLay
        clear hLg hLay hSr hEv hEw hv
        go_wp2
        go_roundw
        case rel => exact ⟨k + 1, D, L, X, Y, by go_num, by omega, by omega, HLg.out, HLay.out, hfin, hg1, hB⟩
        case measure => simp [intOf]; omega
      have hq : decide ((l[k].length : Int) ≤ 100) = true := by simp; omega
      have hz := hLay.szD
      have hgg := appendG_g writeD D L ((60 - 2) / 2) l[k]
      obtain ⟨D', L', a, f, ha, hLay', hfin', -⟩ := hLay.appended hfin l[k]
      rw [ha] at hgg
      have hg1' : L'.g = 1 := hgg.trans hg1
      have cA := append_calls hLg (hEw.mono fun i hi hx => by have := (hLg.y i (hLg.xy i hx)).1; omega)
      rw [hz, ha] at cA
      have CA := Lib.hid cA
      have HLay' := Lib.hid hLay'
      have HLg := Lib.hid hLg
      clear cA ha hz hgg hLay hLay' hLg hEw hEv hSr hv
      go_wp2_with fail
      refine CA.out.mono ?_
      rintro e V2 ⟨rfl, X', Y', hL2, hG2⟩
      have hB2 := hB.trans (hG2.below hB.size HLg.out.xlo)
      have HL2 := Lib.hid hL2
      clear hL2 hG2
      go_wp2
      go_roundw
      case rel => exact ⟨k + 1, D', L', X', Y', by go_num, by omega, by omega, HL2.out, HLay'.out, hfin', hg1', hB2⟩
      case measure => simp [intOf]; omega
    obtain ⟨D2, hsy, hLay2⟩ := hLay.sync hfin
    have cS := sync_calls hLg
    rw [hsy] at cS
    have CS := Lib.hid cS
    have HLg := Lib.hid hLg
    obtain ⟨half, hhalf⟩ : ∃ half, half = L.half := ⟨_, rfl⟩
    obtain ⟨es, hes⟩ : ∃ es, es = L.es := ⟨_, rfl⟩
    rw [hg1, ← hhalf, ← hes] at hLay2
    have HES := Lib.hid hes
    have HLay2 := Lib.hid hLay2
    clear cS hsy hLay hLay2 hLg hes hhalf
    rcases (show k = l.length ∨ (k = 30 ∧ 30 < l.length) by omega) with rfl | ⟨rfl, h30⟩
    · have hd : decide ((l.length : Int) < (l.length : Int)) = false := by simp
      clear hin
      go_wp2_with fail
      refine CS.out.mono ?_
      rintro e V1 ⟨rfl, hL1, hK1⟩
      have hB1 := hB.trans (Kept.below hK1 (B := w.heap.size) fun i hi => ⟨by have := hB.size; omega, fun hx => by have := HLg.out.xlo i hx; omega⟩)
      have cl := list_calls V1 hL1
      rw [← HES.out] at cl
      have CLI := Lib.hid cl
      have HDV := Lib.hid hL1.dv
      have hdl : d < V1.heap.size ∧ sb < V1.heap.size ∧ mb < V1.heap.size := ⟨(hL1.y d (hL1.xy d hL1.x.2.1)).2, (hL1.y sb (hL1.xy sb hL1.x.2.2.1)).2, (hL1.y mb (hL1.xy mb hL1.x.2.2.2)).2⟩
      clear cl hL1 hK1 CS HLg
      go_wp2_with fail
      refine CLI.out.mono ?_
      rintro e V2 ⟨⟨wv, rfl, hwv⟩, hb2⟩
      have HWV := Lib.hid ((Sl.of_own hwv).wide (lo' := V1.heap.size) (Nat.le_refl _) (Nat.le_refl _))
      have HDV2 := Lib.hid (HDV.out.same hb2)
      have hB3 := hB1.trans (hb2.mono hB1.size)
      have hVV := hb2.size
      obtain ⟨Aw, cw, rfl, -⟩ := (Sl.of_own hwv).at_
      clear hwv hb2 CLI HDV
      go_wp2
      have hB20 : Below w.heap.size w V2 := hB3
      have hel : es.length ≤ 700 := by
        have h1 := strm_cnt es
        have h2 := HLay2.out.fits
        omega
      go_loopw [6, 7, 11, 12, 13, 14] (fun _ _ i _ _ _ wr => ∃ (j : Nat) (D : Dv) (half : Nat), i = .int .i64 j ∧ j ≤ m ∧ DvAt wr w.heap.size d sb mb D ∧ Lay D 60 (1 + (j : Int)) half es ∧ Sl wr V1.heap.size V2.heap.size 1 (.slice Aw es.length cw) es.length (strV es) ∧ Below w.heap.size w wr ∧ V2.heap.size ≤ wr.heap.size) (fun _ _ i _ _ _ _ => m - (intOf i).toNat)
      case atStart => exact ⟨0, D2, half, rfl, by omega, HDV2.out, HLay2.out, HWV.out, hB3, Nat.le_refl _⟩
      case round =>
        obtain ⟨j, D, half, rfl, hj, hDv, hLy, hWv, hB, hVs⟩ := hrel
        clear HWV HDV2 HLay2 hB3
        by_cases hlt : j < m
        case neg =>
          obtain rfl : j = m := by omega
          have hd : decide ((j : Int) < (j : Int)) = false := by simp
          clear hDv hLy hWv
          go_wp2
          go_ret
          exact ⟨rfl, hB⟩
        have hd : decide ((j : Int) < (m : Int)) = true := by simp; omega
        obtain ⟨D', hp, hLy'⟩ := hLy.openD (by omega)
        have cO := open_calls hDv
        rw [hp] at cO
        have CO := Lib.hid cO
        have HLy' := Lib.hid hLy'
        have HWv := Lib.hid hWv
        clear cO hp hLy hLy' hDv hWv
        go_wp2_with fail
        refine CO.out.mono ?_
        rintro e W1 ⟨pv, rfl, -, hDe, -, hLL⟩
        obtain ⟨b', X', Y', rfl, hLg', -⟩ := hLL _ rfl
        have hBW1 : Below w.heap.size w W1 := hB.trans (Dev.below hDe hB.size (by have := HLO.out; omega))
        have HWv1 := Lib.hid (Kept.sl hDe HWv.out (fun i h1 h2 => ⟨by omega, by omega, by omega, by omega⟩))
        have hs1 := hDe.size
        have CG := Lib.hid (gen_calls hLg')
        have cl := list_calls W1 hLg'
        dsimp only at cl
        have CLI2 := Lib.hid cl
        have HLg' := Lib.hid hLg'
        have hgen : ((1 + (j : Int) + 1) != (2 + (j : Int))) = false := by simp; omega
        clear cl hLL hDe hLg' CO HWv hB
        go_wp2_with (go_at_call 20; refine CG.out.mono ?_; rintro e W2 ⟨rfl, rfl⟩)
        refine CLI2.out.mono ?_
        rintro e W3 ⟨⟨gv, rfl, hgv⟩, hb3⟩
        have HGv := Lib.hid (Sl.of_own hgv)
        have HWv3 := Lib.hid (Sl.below HWv1.out (hb3.mono (by omega)))
        have hBW3 := hBW1.trans (hb3.mono hBW1.size)
        have hs3 := hb3.size
        have CS3 := Lib.hid (sure_calls (HLg'.out.same hb3))
        have HDv3 := Lib.hid (HLg'.out.dv.same hb3)
        obtain ⟨Ag, cg, rfl, -⟩ := (Sl.of_own hgv).at_
        have hq1 : ((es.length : Int) != (es.length : Int)) = false := by simp
        clear hgv hb3 CLI2 HWv1 HLg' hBW1 CG
        go_wp2_with (go_at_call 21; refine CS3.out.mono ?_; rintro e W4 ⟨rfl, rfl⟩)
        clear CS3
        go_loopw [14] (fun i wr => ∃ q : Nat, i = .int .i64 q ∧ q ≤ es.length ∧ Below W3.heap.size W3 wr) (fun i _ => es.length - (intOf i).toNat)
        case atStart => exact ⟨0, rfl, Nat.zero_le _, Below.refl _ _⟩
        case round =>
          obtain ⟨q, rfl, hq, hbq⟩ := hrel
          by_cases hqlt : q < es.length
          case neg =>
            obtain rfl : q = es.length := by omega
            have hd : decide ((es.length : Int) < (es.length : Int)) = false := by simp
            have hDvq := HDv3.out.same hbq
            have hWvq := Sl.below HWv3.out (hbq.mono (by omega))
            have hBq := hBW3.trans (hbq.mono (by have := hBW3.size; omega))
            have hsq := hbq.size
            have HLx := Lib.hid HLy'.out
            clear hbq HDv3 HWv3
            have HDq := Lib.hid hDvq
            have HWq := Lib.hid hWvq
            clear hDvq hWvq
            go_wp2
            go_roundw
            case rel =>
              refine ⟨j + 1, D', 1 - half, by go_num, by omega, HDq.out, ?_, HWq.out, hBq, by omega⟩
              have := HLx.out
              rwa [show (1 + (j : Int) + 1) = 1 + ((j + 1 : Nat) : Int) by omega] at this
            case measure => simp [intOf]; omega
          have hd : decide ((q : Int) < (es.length : Int)) = true := by simp; omega
          have hsv : (strV es)[q]? = some (.string ⟨es[q].toArray⟩) := by unfold strV; rw [List.getElem?_map, List.getElem?_eq_getElem hqlt]; rfl
          obtain ⟨gb, go, rfl, -, hgl, hgc⟩ := slAt HGv.out hqlt hsv
          obtain ⟨wb, wo, rfl, -, hwl, hwc⟩ := slAt HWv3.out hqlt hsv
          generalize es[q] = y at *
          have HQl := Lib.hid hbq.size
          have HQ := Lib.hid hbq
          have hgd : wr.drew.cell? ⟨gb, go + q, none⟩ = some (.string ⟨y.toArray⟩) := (hbq.cell (p := ⟨gb, go + q, none⟩) hgl).trans hgc
          have hwd : wr.drew.cell? ⟨wb, wo + q, none⟩ = some (.string ⟨y.toArray⟩) := (hbq.cell (p := ⟨wb, wo + q, none⟩) (show wb < _ by omega)).trans hwc
          have hgl2 : gb < wr.drew.heap.size := show gb < wr.heap.size by have := hbq.size; omega
          have hwl2 : wb < wr.drew.heap.size := show wb < wr.heap.size by have := hbq.size; omega
          clear hgc hwc hsv hbq
          go_wp2
          refine Pu.regionW (fun W' => Below wr.drew.heap.size wr.drew W') hmx (by kernel_rfl) (by kernel_rfl) (Below.refl _ _) rfl ?_
          iterate 9 (
            apply Pu.Walk.on (by rfl)
            · intro W5 h5
              have hgW := (h5.cell (p := ⟨gb, go + q, none⟩) hgl2).trans hgd
              have hwW := (h5.cell (p := ⟨wb, wo + q, none⟩) hwl2).trans hwd
              go_wp2_with fail
              refine ⟨rfl, ?_, h5⟩
              try simp only [Act.put, List.setIfInBounds_toArray, List.set_cons_succ, List.set_cons_zero]
              rfl
            simp only [Act.put, List.setIfInBounds_toArray, List.set_cons_succ, List.set_cons_zero])
          refine Pu.Walk.nil (fun W5 h5 => ?_)
          have hbq5 := HQ.out.trans (((Below.refl wr.heap.size wr).drew.mono HQl.out)) |>.trans (h5.mono (show W3.heap.size ≤ wr.heap.size from HQl.out))
          clear h5 hgd hwd
          go_wp2
          go_roundw
          case rel => exact ⟨q + 1, by go_num, by omega, hbq5⟩
          case measure => simp [intOf]; omega
    · have hd : decide (((30 : Nat) : Int) < (l.length : Int)) = true := by simp; omega
      clear hin
      go_wp2_with fail
      refine CS.out.mono ?_
      rintro e V1 ⟨rfl, hL1, hK1⟩
      have hB1 := hB.trans (Kept.below hK1 (B := w.heap.size) fun i hi => ⟨by have := hB.size; omega, fun hx => by have := HLg.out.xlo i hx; omega⟩)
      have cl := list_calls V1 hL1
      rw [← HES.out] at cl
      have CLI := Lib.hid cl
      have HDV := Lib.hid hL1.dv
      have hdl : d < V1.heap.size ∧ sb < V1.heap.size ∧ mb < V1.heap.size := ⟨(hL1.y d (hL1.xy d hL1.x.2.1)).2, (hL1.y sb (hL1.xy sb hL1.x.2.2.1)).2, (hL1.y mb (hL1.xy mb hL1.x.2.2.2)).2⟩
      clear cl hL1 hK1 CS HLg
      go_wp2_with fail
      refine CLI.out.mono ?_
      rintro e V2 ⟨⟨wv, rfl, hwv⟩, hb2⟩
      have HWV := Lib.hid ((Sl.of_own hwv).wide (lo' := V1.heap.size) (Nat.le_refl _) (Nat.le_refl _))
      have HDV2 := Lib.hid (HDV.out.same hb2)
      have hB3 := hB1.trans (hb2.mono hB1.size)
      have hVV := hb2.size
      obtain ⟨Aw, cw, rfl, -⟩ := (Sl.of_own hwv).at_
      clear hwv hb2 CLI HDV
      go_wp2
      have hB20 : Below w.heap.size w V2 := hB3
      have hel : es.length ≤ 700 := by
        have h1 := strm_cnt es
        have h2 := HLay2.out.fits
        omega
      go_loopw [6, 7, 11, 12, 13, 14] (fun _ _ i _ _ _ wr => ∃ (j : Nat) (D : Dv) (half : Nat), i = .int .i64 j ∧ j ≤ m ∧ DvAt wr w.heap.size d sb mb D ∧ Lay D 60 (1 + (j : Int)) half es ∧ Sl wr V1.heap.size V2.heap.size 1 (.slice Aw es.length cw) es.length (strV es) ∧ Below w.heap.size w wr ∧ V2.heap.size ≤ wr.heap.size) (fun _ _ i _ _ _ _ => m - (intOf i).toNat)
      case atStart => exact ⟨0, D2, half, rfl, by omega, HDV2.out, HLay2.out, HWV.out, hB3, Nat.le_refl _⟩
      case round =>
        obtain ⟨j, D, half, rfl, hj, hDv, hLy, hWv, hB, hVs⟩ := hrel
        clear HWV HDV2 HLay2 hB3
        by_cases hlt : j < m
        case neg =>
          obtain rfl : j = m := by omega
          have hd : decide ((j : Int) < (j : Int)) = false := by simp
          clear hDv hLy hWv
          go_wp2
          go_ret
          exact ⟨rfl, hB⟩
        have hd : decide ((j : Int) < (m : Int)) = true := by simp; omega
        obtain ⟨D', hp, hLy'⟩ := hLy.openD (by omega)
        have cO := open_calls hDv
        rw [hp] at cO
        have CO := Lib.hid cO
        have HLy' := Lib.hid hLy'
        have HWv := Lib.hid hWv
        clear cO hp hLy hLy' hDv hWv
        go_wp2_with fail
        refine CO.out.mono ?_
        rintro e W1 ⟨pv, rfl, -, hDe, -, hLL⟩
        obtain ⟨b', X', Y', rfl, hLg', -⟩ := hLL _ rfl
        have hBW1 : Below w.heap.size w W1 := hB.trans (Dev.below hDe hB.size (by have := HLO.out; omega))
        have HWv1 := Lib.hid (Kept.sl hDe HWv.out (fun i h1 h2 => ⟨by omega, by omega, by omega, by omega⟩))
        have hs1 := hDe.size
        have CG := Lib.hid (gen_calls hLg')
        have cl := list_calls W1 hLg'
        dsimp only at cl
        have CLI2 := Lib.hid cl
        have HLg' := Lib.hid hLg'
        have hgen : ((1 + (j : Int) + 1) != (2 + (j : Int))) = false := by simp; omega
        clear cl hLL hDe hLg' CO HWv hB
        go_wp2_with (go_at_call 20; refine CG.out.mono ?_; rintro e W2 ⟨rfl, rfl⟩)
        refine CLI2.out.mono ?_
        rintro e W3 ⟨⟨gv, rfl, hgv⟩, hb3⟩
        have HGv := Lib.hid (Sl.of_own hgv)
        have HWv3 := Lib.hid (Sl.below HWv1.out (hb3.mono (by omega)))
        have hBW3 := hBW1.trans (hb3.mono hBW1.size)
        have hs3 := hb3.size
        have CS3 := Lib.hid (sure_calls (HLg'.out.same hb3))
        have HDv3 := Lib.hid (HLg'.out.dv.same hb3)
        obtain ⟨Ag, cg, rfl, -⟩ := (Sl.of_own hgv).at_
        have hq1 : ((es.length : Int) != (es.length : Int)) = false := by simp
        clear hgv hb3 CLI2 HWv1 HLg' hBW1 CG
        go_wp2_with (go_at_call 21; refine CS3.out.mono ?_; rintro e W4 ⟨rfl, rfl⟩)
        clear CS3
        go_loopw [14] (fun i wr => ∃ q : Nat, i = .int .i64 q ∧ q ≤ es.length ∧ Below W3.heap.size W3 wr) (fun i _ => es.length - (intOf i).toNat)
        case atStart => exact ⟨0, rfl, Nat.zero_le _, Below.refl _ _⟩
        case round =>
          obtain ⟨q, rfl, hq, hbq⟩ := hrel
          by_cases hqlt : q < es.length
          case neg =>
            obtain rfl : q = es.length := by omega
            have hd : decide ((es.length : Int) < (es.length : Int)) = false := by simp
            have hDvq := HDv3.out.same hbq
            have hWvq := Sl.below HWv3.out (hbq.mono (by omega))
            have hBq := hBW3.trans (hbq.mono (by have := hBW3.size; omega))
            have hsq := hbq.size
            have HLx := Lib.hid HLy'.out
            clear hbq HDv3 HWv3
            have HDq := Lib.hid hDvq
            have HWq := Lib.hid hWvq
            clear hDvq hWvq
            go_wp2
            go_roundw
            case rel =>
              refine ⟨j + 1, D', 1 - half, by go_num, by omega, HDq.out, ?_, HWq.out, hBq, by omega⟩
              have := HLx.out
              rwa [show (1 + (j : Int) + 1) = 1 + ((j + 1 : Nat) : Int) by omega] at this
            case measure => simp [intOf]; omega
          have hd : decide ((q : Int) < (es.length : Int)) = true := by simp; omega
          have hsv : (strV es)[q]? = some (.string ⟨es[q].toArray⟩) := by unfold strV; rw [List.getElem?_map, List.getElem?_eq_getElem hqlt]; rfl
          obtain ⟨gb, go, rfl, -, hgl, hgc⟩ := slAt HGv.out hqlt hsv
          obtain ⟨wb, wo, rfl, -, hwl, hwc⟩ := slAt HWv3.out hqlt hsv
          generalize es[q] = y at *
          have HQl := Lib.hid hbq.size
          have HQ := Lib.hid hbq
          have hgd : wr.drew.cell? ⟨gb, go + q, none⟩ = some (.string ⟨y.toArray⟩) := (hbq.cell (p := ⟨gb, go + q, none⟩) hgl).trans hgc
          have hwd : wr.drew.cell? ⟨wb, wo + q, none⟩ = some (.string ⟨y.toArray⟩) := (hbq.cell (p := ⟨wb, wo + q, none⟩) (show wb < _ by omega)).trans hwc
          have hgl2 : gb < wr.drew.heap.size := show gb < wr.heap.size by have := hbq.size; omega
          have hwl2 : wb < wr.drew.heap.size := show wb < wr.heap.size by have := hbq.size; omega
          clear hgc hwc hsv hbq
          go_wp2
          refine Pu.regionW (fun W' => Below wr.drew.heap.size wr.drew W') hmx (by kernel_rfl) (by kernel_rfl) (Below.refl _ _) rfl ?_
          iterate 9 (
            apply Pu.Walk.on (by rfl)
            · intro W5 h5
              have hgW := (h5.cell (p := ⟨gb, go + q, none⟩) hgl2).trans hgd
              have hwW := (h5.cell (p := ⟨wb, wo + q, none⟩) hwl2).trans hwd
              go_wp2_with fail
              refine ⟨rfl, ?_, h5⟩
              try simp only [Act.put, List.setIfInBounds_toArray, List.set_cons_succ, List.set_cons_zero]
              rfl
            simp only [Act.put, List.setIfInBounds_toArray, List.set_cons_succ, List.set_cons_zero])
          refine Pu.Walk.nil (fun W5 h5 => ?_)
          have hbq5 := HQ.out.trans (((Below.refl wr.heap.size wr).drew.mono HQl.out)) |>.trans (h5.mono (show W3.heap.size ≤ wr.heap.size from HQl.out))
          clear h5 hgd hwd
          go_wp2
          go_roundw
          case rel => exact ⟨q + 1, by go_num, by omega, hbq5⟩
          case measure => simp [intOf]; omega
end Wa
end Go.Proofs.Yteiniahikhiadaa

namespace Go.Proofs.Yteiniahikhiadaa
open Go.ChangeShapes Go.WideShapes Go.ChangeAt Go.RowKit
namespace Wa
set_option maxRecDepth 100000 in
theorem walAgain_lifted (os : Os) (started : os.Started) (H : Type) (enc : TypeId × Value → H) :
    ReturnsInHanded {} Try.checked os 4 .any (Rows.walAgainSpec.pre6 enc Try.prog Try.f4 Rows.walAgainRow.domain false) (Rows.walAgainSpec.post enc Try.prog Try.f4 false true false false) := by
  refine returnsInHanded_of_change (C := Try.checked) own started (by kernel_rfl) Try.func4
    (ChangeSpec.witness6 (enc := enc) (C := Try.checked) false ⟨#[], #[.slice none 0 0, .int .i64 0], []⟩ 8 (by kernel_rfl) (by kernel_rfl) (by kernel_rfl) (by kernel_rfl)) ?_
  intro W base args ds gs before hval0 hW _ _
  have hval : ∀ (j : Nat) t v, Try.f4.params[j]? = some t → args[j]? = some v → Value.okWide Try.prog W .any base t v := hval0
  obtain ⟨p, q, hA0, hV, hps, hfz, hnd⟩ := id hW
  have hA : DataW.TrodAll enc Try.prog W 0 (fun _ => true) true Try.f4.params.toList args.toList ds p := hA0
  rw [Try.params4] at hA hval
  obtain ⟨v0, vs0, d0, ds0, p0, q0, hargs, rfl, rfl, h0, r0⟩ := trodAll_cons hA
  obtain ⟨v1, vs1, d1, ds1, p1, q1, rfl, rfl, rfl, h1, r1⟩ := trodAll_cons r0
  obtain ⟨rfl, rfl, rfl⟩ := trodAll_nil r1
  obtain rfl : args = #[v0, v1] := by cases args; simp_all
  obtain ⟨rfl, rfl⟩ := trodVars_none hV
  obtain ⟨k, rfl, rfl, rfl, wk⟩ := open_int Try.underlying3 (hval 1 3 v1 rfl rfl) h1
  obtain ⟨l, vals, hl, he⟩ := open_lists h0 (okWide_slice Try.underlying22 (hval 0 22 v0 rfl rfl))
  have bk : -9223372036854775808 ≤ k ∧ k ≤ 9223372036854775807 := by simpa [Lit.wf, IntKind.min, IntKind.max, IntKind.signed, IntKind.bits] using wk
  refine (again_law l v0 vals k W hl he bk).mono fun e W' ⟨he, hb⟩ => ?_
  subst he
  exact ⟨_, rfl, law_post laidOut (by kernel_rfl) rfl Try.underlying4 rfl hW rfl hb⟩

theorem walAgain_holds : Rows.WalAgainSaid :=
  OpenClaim.holds_of_wide 4 Try.f4 rfl rfl rfl rfl rfl rfl rfl ⟨rfl, rfl, rfl, rfl, rfl⟩ rfl rfl rfl rfl rfl (by kernel_rfl) Try.func4 (by kernel_rfl)
    (of_decide_eq_true (by kernel_rfl)) (by unfold Func.isWrapper; first | (rw [if_pos (by decide +kernel)]; kernel_rfl) | (rw [if_neg (by decide +kernel)]; exact ⟨rfl, rfl⟩))
    (fun os started H enc _ => walAgain_lifted os started H enc)

end Wa
end Go.Proofs.Yteiniahikhiadaa
