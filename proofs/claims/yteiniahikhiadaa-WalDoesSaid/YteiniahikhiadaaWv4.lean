/-
  sector: the document's device: Crash.
  sector: the document's device: New.
  sector: what Crash does, plain.
  life: the walks of Name, Named, Behind, and of the reference's Name, Behind, In.
  life: the walks of Named, Index, Contains, In, Behind.
  sector: Crash.
  sector: Crash, whatever comes.
  the law Does of logs: both logs in memory.
  objects in memory: several cells stored at once.
-/
import Derived.Test.YteiniahikhiadaaWv1
import Derived.BigRegion
import Derived.RegionTactic
import Derived.ChangeAlike
import Derived.Test.YteiniahikhiadaaWn4
import Derived.Test.YteiniahikhiadaaRows
import Derived.WalkKit
import Derived.WalkSpells
import Derived.WalkLawsBesides
import Derived.Lib.Hide
import Derived.Test.YteiniahikhiadaaWn1
import Derived.Test.YteiniahikhiadaaWv3
import Derived.Test.YteiniahikhiadaaWn2
import Derived.Deep.MidRow

set_option linter.unusedVariables false
set_option linter.unusedSimpArgs false
namespace Go.Proofs.Yteiniahikhiadaa
open Go.RowKit Go.Maps
namespace Se
open Ce
section
variable {w w' : World} {base x sb lb tb : Nat} {R R' : Rv}
def crS (R : Rv) (keep : List Int) (torn : Int) (n : Nat) : Nat → Rv
  | 0 => R
  | k + 1 => { crS R keep torn n k with sure := (crS R keep torn n k).sure.set k (crashRB R keep torn n k), last := (crS R keep torn n k).last.set k (crashRB R keep torn n k), dirty := (crS R keep torn n k).dirty.set k false }
theorem crS_same (R : Rv) (keep : List Int) (torn : Int) (n : Nat) : ∀ k, (crS R keep torn n k).stops = R.stops ∧ (crS R keep torn n k).left = R.left ∧ (crS R keep torn n k).wr = R.wr ∧ (crS R keep torn n k).fl = R.fl ∧ (crS R keep torn n k).sure.length = R.sure.length ∧ (crS R keep torn n k).last.length = R.last.length ∧ (crS R keep torn n k).dirty.length = R.dirty.length
  | 0 => ⟨rfl, rfl, rfl, rfl, rfl, rfl, rfl⟩
  | k + 1 => by
    obtain ⟨h1, h2, h3, h4, h5, h6, h7⟩ := crS_same R keep torn n k
    exact ⟨h1, h2, h3, h4, by simp [crS, h5], by simp [crS, h6], by simp [crS, h7]⟩
theorem set_at {α : Type} {l l0 : List α} {k j : Nat} {x : Nat → α} (hl : l.length = l0.length) (ih : l[j]? = (if j < k ∧ j < l0.length then some (x j) else l0[j]?)) : (l.set k (x k))[j]? = if j < k + 1 ∧ j < l0.length then some (x j) else l0[j]? := by
  rw [List.getElem?_set, ih, hl]
  by_cases e : k = j
  · subst e
    by_cases h : k < l0.length
    · simp [h]
    · simp [h]
  · rw [if_neg e]
    by_cases h : j < k
    · simp [h, show j < k + 1 by omega]
    · simp [h, show ¬ j < k + 1 by omega]
theorem crS_at (R : Rv) (keep : List Int) (torn : Int) (n k j : Nat) : (crS R keep torn n k).sure[j]? = (if j < k ∧ j < R.sure.length then some (crashRB R keep torn n j) else R.sure[j]?) ∧ (crS R keep torn n k).last[j]? = (if j < k ∧ j < R.last.length then some (crashRB R keep torn n j) else R.last[j]?) ∧ (crS R keep torn n k).dirty[j]? = (if j < k ∧ j < R.dirty.length then some false else R.dirty[j]?) := by
  induction k with
  | zero => simp [crS]
  | succ k ih =>
    obtain ⟨-, -, -, -, h5, h6, h7⟩ := crS_same R keep torn n k
    exact ⟨set_at (x := crashRB R keep torn n) h5 ih.1, set_at (x := crashRB R keep torn n) h6 ih.2.1, set_at (x := fun _ => false) h7 ih.2.2⟩
theorem all_at {α : Type} {l l0 : List α} {m : Nat} {x : Nat → α} (hm : l0.length = m) (h : ∀ j, l[j]? = if j < m ∧ j < l0.length then some (x j) else l0[j]?) : l = (List.range m).map x := by
  apply List.ext_getElem?
  intro j
  rw [h j, List.getElem?_map]
  by_cases hj : j < m
  · rw [if_pos ⟨hj, by omega⟩, List.getElem?_range hj]
    rfl
  · rw [if_neg (fun h => hj h.1), List.getElem?_eq_none (by omega), List.getElem?_eq_none (by simp; omega)]
    rfl
theorem crS_all {R : Rv} (hok : OkR R) (keep : List Int) (torn : Int) (n : Nat) : crS R keep torn n R.sure.length = { R with sure := (List.range R.sure.length).map (crashRB R keep torn n), last := (List.range R.sure.length).map (crashRB R keep torn n), dirty := List.replicate R.sure.length false } := by
  obtain ⟨h1, h2, h3, h4, -, -, -⟩ := crS_same R keep torn n R.sure.length
  have e1 := all_at (x := crashRB R keep torn n) rfl (fun j => (crS_at R keep torn n R.sure.length j).1)
  have e2 := all_at (x := crashRB R keep torn n) hok.ll (fun j => (crS_at R keep torn n R.sure.length j).2.1)
  have e3 := all_at (x := fun _ => false) hok.dl (fun j => (crS_at R keep torn n R.sure.length j).2.2)
  rw [← rep_map] at e3
  generalize crS R keep torn n R.sure.length = Q at *
  obtain ⟨q1, q2, q3, q4, q5, q6, q7⟩ := Q
  dsimp only at h1 h2 h3 h4 e1 e2 e3
  subst h1 h2 h3 h4 e1 e2 e3
  rfl
theorem getD_of {α : Type} {l l0 : List α} {k : Nat} {z : α} (h : l[k]? = l0[k]?) : l.getD k z = l0.getD k z := by rw [List.getD_eq_getElem?_getD, List.getD_eq_getElem?_getD, h]
theorem crS_now (R : Rv) (keep : List Int) (torn : Int) (n k : Nat) : (crS R keep torn n k).sure.getD k [] = R.sure.getD k [] ∧ (crS R keep torn n k).last.getD k [] = R.last.getD k [] ∧ (crS R keep torn n k).dirty.getD k false = R.dirty.getD k false := by
  obtain ⟨h1, h2, h3⟩ := crS_at R keep torn n k k
  simp only [Nat.lt_irrefl, false_and, if_false] at h1 h2 h3
  exact ⟨getD_of h1, getD_of h2, getD_of h3⟩
def anyK (keep : List Int) (i : Int) (j : Nat) : Bool := (keep.take j).any fun x => x == i
theorem anyK_zero (keep : List Int) (i : Int) : anyK keep i 0 = false := by simp [anyK]
theorem anyK_step {keep : List Int} {i : Int} {j : Nat} (hj : j < keep.length) : anyK keep i (j + 1) = (anyK keep i j || (keep.getD j 0 == i)) := by
  unfold anyK
  rw [List.take_succ_eq_append_getElem hj, List.any_append, List.getD_eq_getElem?_getD, List.getElem?_eq_getElem hj]
  simp
theorem anyK_all (keep : List Int) (i : Int) : anyK keep i keep.length = decide (i ∈ keep) := by
  unfold anyK
  rw [List.take_length, Bool.eq_iff_iff]
  simp
set_option maxRecDepth 100000 in
theorem rcrash_arg (kv : Value) (torn n : Int) (hn : n < 0 ∨ 64 < n) (w : World) (x : Nat) :
    Calls Try.prog 32 #[.pointer (some ⟨x, 0, none⟩), kv, .int .i64 torn, .int .i64 n] w fun e w' => e = .returned (.int .i64 1) ∧ w = w' := by
  rcases Int.lt_or_le n 0 with h1 | h1
  · have hd : decide (n < 0) = true := by simpa using h1
    clear hn
    go_enter Try.func32, Try.ntmps32
    go_wp2
    go_ret
    exact ⟨rfl, rfl⟩
  · have hd : decide (n < 0) = false := by simpa using h1
    have hd2 : decide (n > 64) = true := by simp; omega
    clear hn
    go_enter Try.func32, Try.ntmps32
    go_wp2
    go_ret
    exact ⟨rfl, rfl⟩
set_option maxRecDepth 100000 in
set_option maxHeartbeats 16000000 in
theorem rcrash_good (h : RvAt w base x sb lb tb R) (keep : List Int) (kv : Value) (lo B : Nat) (hK : IntsAt w lo B kv keep) (hF : ∀ i, lo ≤ i → i < B → i < w.heap.size ∧ i ≠ x ∧ i ≠ sb ∧ i ≠ lb ∧ i ≠ tb) (torn : Int) (n : Nat) (hn : n ≤ 64) :
    Calls Try.prog 32 #[.pointer (some ⟨x, 0, none⟩), kv, .int .i64 torn, .int .i64 n] w fun e w' => e = .returned (.int .i64 0) ∧ RvAt w' base x sb lb tb { R with sure := (List.range R.sure.length).map (crashRB R keep torn n), last := (List.range R.sure.length).map (crashRB R keep torn n), dirty := List.replicate R.sure.length false, stops := false } ∧ Rev x sb lb tb w w' := by
  have H := Lib.hid h
  have HOK := Lib.hid h.ok
  have HK := Lib.hid hK
  have hlen := h.len.2
  obtain ⟨Ak, ck, rfl, hk1, hk2, -⟩ := hK.form
  unfold maxLen at hk2
  obtain ⟨m, hm⟩ : ∃ m, m = R.sure.length := ⟨_, rfl⟩
  have HM := Lib.hid hm
  rw [← hm] at hlen
  clear h hK hm
  have hd1 : decide ((n : Int) < 0) = false := by simp; try omega
  have hd2 : decide ((n : Int) > 64) = false := by simp; omega
  go_enter Try.func32, Try.ntmps32
  go_wp2_with fail
  go_loopw [9] (fun q wr => ∃ k : Nat, k ≤ m ∧ q = .int .i64 k ∧ RvAt wr base x sb lb tb (crS R keep torn n k) ∧ Rev x sb lb tb w wr) (fun q _ => m - (intOf q).toNat)
  case atStart => exact ⟨0, by omega, rfl, H.out, Rev.refl _⟩
  case round =>
    obtain ⟨k, hk, rfl, hW, hV⟩ := hrel
    clear H hd1 hd2
    obtain ⟨wo, hwo⟩ : ∃ wo : World, wo = wr := ⟨_, rfl⟩
    rw [← hwo] at hW hV ⊢
    clear hwo
    obtain ⟨-, -, -, -, hs5, hs6, hs7⟩ := crS_same R keep torn n k
    obtain ⟨hn1, hn2, hn3⟩ := crS_now R keep torn n k
    have hsl : (crS R keep torn n k).sure.length = m := hs5.trans HM.out.symm
    have HSAME := Lib.hid (crS_same R keep torn n k)
    have HN := Lib.hid (And.intro hn1 (And.intro hn2 hn3))
    have HNEXT := Lib.hid (show crS R keep torn n (k + 1) = { crS R keep torn n k with sure := (crS R keep torn n k).sure.set k (crashRB R keep torn n k), last := (crS R keep torn n k).last.set k (crashRB R keep torn n k), dirty := (crS R keep torn n k).dirty.set k false } from rfl)
    have HALL := Lib.hid (fun (e : k = m) => show crS R keep torn n k = { R with sure := (List.range R.sure.length).map (crashRB R keep torn n), last := (List.range R.sure.length).map (crashRB R keep torn n), dirty := List.replicate R.sure.length false } from by rw [e, HM.out]; exact crS_all HOK.out keep torn n)
    generalize hSS : crS R keep torn n k = S at *
    have HS := Lib.hid hSS
    have hO := hW.ob
    unfold revC at hO
    rw [hsl] at hO
    have HSL := Lib.hid hsl
    clear hs5 hs6 hs7 hn1 hn2 hn3 hSS hsl
    have yy0 := hO.cell (j := 0) (v := .slice (some ⟨sb, 0, none⟩) m m) rfl
    by_cases hlt : k < m
    · have hd : decide ((k : Int) < (m : Int)) = true := by simp; omega
      have hd' : decide (k < m) = true := by simpa using hlt
      have hKr : IntsAt wo lo B (.slice Ak keep.length ck) keep := Kept.sl hV HK.out fun i a b => hF i a b
      have HW := Lib.hid hW
      have HV := Lib.hid hV
      have HO := Lib.hid hO
      have HKR := Lib.hid (IntsAt.form hKr)
      have yy2 := hO.cell (j := 2) (v := .slice (some ⟨tb, 0, none⟩) m m) rfl
      have hdl : k < S.dirty.length := by rw [hW.ok.dl, HSL.out]; exact hlt
      have hdc := hW.dirty.cell (boolC_get hdl)
      rw [HN.out.2.2] at hdc
      have HC64 := Lib.hid (crashRB_len HOK.out keep torn hn (i := k) (by rw [← HM.out]; exact hlt))
      clear hW hV hO hKr hdl
      go_wp2_with fail
      go_loop [10, 11] (fun a q => ∃ j : Nat, j ≤ keep.length ∧ q = .int .i64 j ∧ a = .bool (anyK keep k j)) (fun _ q => keep.length - (intOf q).toNat)
      case atStart => exact ⟨0, by omega, rfl, by rw [anyK_zero]⟩
      case round =>
        obtain ⟨j, hj, rfl, rfl⟩ := hrel
        by_cases hlj : j < keep.length
        · have hdj : decide ((j : Int) < (keep.length : Int)) = true := by simp; omega
          obtain ⟨A', c', e', -, -, hcc⟩ := HKR.out
          cases e'
          obtain ⟨kb, ko, rfl, -, -, hck⟩ := hcc (by omega)
          have hcj := hck j hlj
          have HST := Lib.hid (anyK_step (i := (k : Int)) hlj)
          clear hck hcc
          generalize keep.getD j 0 = kj at *
          cases ha : anyK keep k j with
          | true =>
            rw [ha] at HST
            go_wp2
            go_round
            case rel => exact ⟨j + 1, by omega, by go_num, by rw [HST.out]; rfl⟩
            case measure => simp [intOf]; omega
          | false =>
            rw [ha] at HST
            go_wp2
            go_round
            case rel => exact ⟨j + 1, by omega, by go_num, by rw [HST.out]; rfl⟩
            case measure => simp [intOf]; omega
        · obtain rfl : j = keep.length := by omega
          have hdj : decide ((keep.length : Int) < (keep.length : Int)) = false := by simp
          rw [anyK_all]
          clear hlj
          cases hdk : R.dirty.getD k false with
          | false =>
            rw [hdk] at hdc
            have HCE := Lib.hid (show crashRB R keep torn n k = S.sure.getD k [] by rw [HN.out.1]; unfold crashRB; rw [hdk]; rfl)
            have HT := Lib.hid (show RvAt wo base x sb lb tb { S with sure := S.sure.set k (crashRB R keep torn n k) } by rw [HCE.out, set_getD]; exact HW.out)
            have HVZ := HV
            obtain ⟨WZ, hWZ⟩ : ∃ X : World, X = wo := ⟨_, rfl⟩
            rw [← hWZ] at HT HVZ yy0 yy2 hdc ⊢
            clear hWZ HCE yy0
            have hrs : WZ.rangeAt sb (k * 64) (bytesV (crashRB R keep torn n k)) := by
              have h1 := HT.out.sure.at_ k (by rw [List.length_set, HSL.out]; exact hlt)
              rw [List.getElem_set_self] at h1
              exact h1
            have hOz := HT.out.ob
            simp only [revC, List.length_set, HSL.out] at hOz
            have hb := (Below.refl WZ.heap.size WZ).drew
            have HTD := Lib.hid (HT.out.same hb)
            have HT1 := Lib.hid (HTD.out.setLast (i := k) (b := crashRB R keep torn n k) (by rw [List.length_set, HSL.out]; exact hlt) HC64.out)
            have hdl2 : k < S.dirty.length := by have := HT.out.ok.dl; rw [List.length_set, HSL.out] at this; show k < S.dirty.length; rw [this]; exact hlt
            have hc2 := HT1.out.dirty.cell (boolC_get hdl2)
            have hf2 := HT1.out.dirty.frozen k
            have HT2 := Lib.hid (show RvAt _ base x sb lb tb (crS R keep torn n (k + 1)) from by rw [HNEXT.out]; exact HT1.out.setDirty k false)
            have hgc := grownBy_cells (b := lb) (bytesV (crashRB R keep torn n k)) WZ.drew (k * 64)
            have HVS := Lib.hid ((HVZ.out.trans Rev.drew).trans ((Rev.of (x := x) (sb := sb) (lb := lb) (tb := tb) hgc (.inr (.inr (.inl rfl)))).trans (Rev.of (x := x) (sb := sb) (lb := lb) (tb := tb) (grownBy_set _ tb k (.bool false)) (.inr (.inr (.inr rfl))))))
            have hOd : Ob WZ.drew x 98 #[.slice (some ⟨sb, 0, none⟩) m m, .slice (some ⟨lb, 0, none⟩) m m, .slice (some ⟨tb, 0, none⟩) m m, .bool S.stops, .int .i64 S.left, .int .i64 S.wr, .int .i64 S.fl] := hOz
            have hrd : WZ.drew.rangeAt sb (k * 64) (bytesV (crashRB R keep torn n k)) := (World.rangeAt_drew _ _ _ _).2 hrs
            have htd : WZ.drew.there lb (k * 64) 64 := (World.there_drew _ _ _ _).2 (there_part HT.out.last.there (by have := HT.out.ok.ll; rw [List.length_set, HSL.out] at this; show k * 64 + 64 ≤ S.last.length * 64; rw [this]; omega))
            have hne := HT.out.ne
            have hOc := hOd.kept hgc (fun e => hne.2.1 (Option.some.inj e))
            have hrc := range_of_block (hgc.block sb (show sb < WZ.drew.heap.size from HT.out.sure.lt) (fun e => hne.2.2.2.1 (Option.some.inj e))) hrd
            generalize S.dirty.getD k false = od at *
            generalize hbs : crashRB R keep torn n k = bs at *
            have HSZ := Lib.hid (show (bytesV bs).toArray.size = 64 by simp [bytesV_length, HC64.out])
            have HL := Lib.hid HC64.out
            clear hrs hOz hb hdl2 hgc hbs HT HTD HVZ
            go_wp2_with fail
            refine Pu.regionM [(0, false), (1, false), (2, false), (3, false), (4, false), (5, false), (6, false), (7, false), (8, false), (9, false), (10, false), (11, false), (12, false), (13, false), (14, false), (15, false), (16, false), (17, false), (18, true), (19, false), (20, true)] (fun V => Ob V x 98 #[.slice (some ⟨sb, 0, none⟩) m m, .slice (some ⟨lb, 0, none⟩) m m, .slice (some ⟨tb, 0, none⟩) m m, .bool S.stops, .int .i64 S.left, .int .i64 S.wr, .int .i64 S.fl] ∧ V.rangeAt sb (k * 64) (bytesV bs)) hmx (by kernel_rfl) (by kernel_rfl) (by kernel_rfl) ⟨hOd, hrd⟩ rfl ?_
            simp only [Pu.named, List.filterMap_cons, List.filterMap_nil, List.getElem?_toArray, List.getElem?_cons_succ, List.getElem?_cons_zero, Option.map_some]
            iterate 16 (first
              | (refine Pu.WalkM.off (by rfl) ?_; simp only [Act.put, List.setIfInBounds_toArray, List.set_cons_succ, List.set_cons_zero])
              | (apply Pu.WalkM.on (by rfl)
                 · intro V hV
                   obtain ⟨gO, gr⟩ := hV
                   have y0 := gO.cell (j := 0) (v := .slice (some ⟨sb, 0, none⟩) m m) rfl
                   have y1 := gO.cell (j := 1) (v := .slice (some ⟨lb, 0, none⟩) m m) rfl
                   have y2 := gO.cell (j := 2) (v := .slice (some ⟨tb, 0, none⟩) m m) rfl
                   go_wp2_with fail
                   refine ⟨rfl, ?_, rfl⟩
                   try simp only [Act.put, List.setIfInBounds_toArray, List.set_cons_succ, List.set_cons_zero]
                   rfl
                 simp only [Act.put, List.setIfInBounds_toArray, List.set_cons_succ, List.set_cons_zero]))
            apply Pu.WalkM.on (by rfl)
            · intro V hV
              obtain ⟨gO, gr⟩ := hV
              refine wpList_load_mid rfl 102 (.tmp 108) rfl sb (k * 64) rfl (bytesV bs) _ gr Try.underlying102 rfl (by rw [bytesV_length, HL.out]; kernel_rfl) ?_
              go_wp2_with fail
              refine ⟨rfl, ?_, rfl⟩
              try simp only [Act.put, List.setIfInBounds_toArray, List.set_cons_succ, List.set_cons_zero]
              rfl
            simp only [Act.put, List.setIfInBounds_toArray, List.set_cons_succ, List.set_cons_zero]
            iterate 1 (first
              | (refine Pu.WalkM.off (by rfl) ?_; simp only [Act.put, List.setIfInBounds_toArray, List.set_cons_succ, List.set_cons_zero])
              | (apply Pu.WalkM.on (by rfl)
                 · intro V hV
                   obtain ⟨gO, gr⟩ := hV
                   have y0 := gO.cell (j := 0) (v := .slice (some ⟨sb, 0, none⟩) m m) rfl
                   have y1 := gO.cell (j := 1) (v := .slice (some ⟨lb, 0, none⟩) m m) rfl
                   have y2 := gO.cell (j := 2) (v := .slice (some ⟨tb, 0, none⟩) m m) rfl
                   go_wp2_with fail
                   refine ⟨rfl, ?_, rfl⟩
                   try simp only [Act.put, List.setIfInBounds_toArray, List.set_cons_succ, List.set_cons_zero]
                   rfl
                 simp only [Act.put, List.setIfInBounds_toArray, List.set_cons_succ, List.set_cons_zero]))
            generalize hWd : WZ.drew = WD at *
            clear hWd
            refine Pu.WalkM.make (by rfl) ?_
            intro V hV
            rw [hV]
            clear hV V
            refine wpList_store_mid rfl 102 (.tmp 110) (.tmp 109) rfl lb (k * 64) (bytesV bs).toArray rfl rfl (by rw [HSZ.out]; exact htd) (by rw [HSZ.out]; kernel_rfl) (all_oneCell_toArray (bytesV_one bs)) ?_
            have eT : (bytesV bs).toArray.toList = bytesV bs := by simp
            rw [eT]
            clear eT
            refine ⟨rfl, undef, _, (fun V => V = WD.setCells lb (k * 64) (bytesV bs)), rfl, rfl, (fun V h => by rw [h]; exact ⟨hOc, hrc⟩), (.inr (fun _ h => h)), ?_⟩
            simp only [Act.put]
            generalize hWe : WD.setCells lb (k * 64) (bytesV bs) = WE at *
            clear hWe
            iterate 1 (first
              | (refine Pu.WalkM.off (by rfl) ?_; simp only [Act.put, List.setIfInBounds_toArray, List.set_cons_succ, List.set_cons_zero])
              | (apply Pu.WalkM.on (by rfl)
                 · intro V hV
                   obtain ⟨gO, gr⟩ := hV
                   have y0 := gO.cell (j := 0) (v := .slice (some ⟨sb, 0, none⟩) m m) rfl
                   have y1 := gO.cell (j := 1) (v := .slice (some ⟨lb, 0, none⟩) m m) rfl
                   have y2 := gO.cell (j := 2) (v := .slice (some ⟨tb, 0, none⟩) m m) rfl
                   go_wp2_with fail
                   refine ⟨rfl, ?_, rfl⟩
                   try simp only [Act.put, List.setIfInBounds_toArray, List.set_cons_succ, List.set_cons_zero]
                   rfl
                 simp only [Act.put, List.setIfInBounds_toArray, List.set_cons_succ, List.set_cons_zero]))
            refine Pu.WalkM.make (by rfl) ?_
            intro V hV
            rw [hV]
            clear hV V
            go_wp2_with fail
            refine ⟨rfl, undef, (fun _ => True), (fun V => V = WE.setCell ⟨tb, k, none⟩ (.bool false)), rfl, rfl, (fun _ _ => trivial), (.inl (by kernel_rfl)), Pu.WalkM.nil ?_⟩
            intro V hV
            rw [hV]
            clear hV V
            simp only [Act.put]
            clear hc2 hf2 hOd hrd htd hOc hrc
            go_wp2
            exact ⟨⟨k + 1, by omega, by go_num, HT2.out, HVS.out⟩, by simp [intOf]; omega⟩
          | true =>
            by_cases hkk : (k : Int) ∈ keep
            · rw [hdk] at hdc
              have hkp : decide ((k : Int) ∈ keep) = true := by simpa using hkk
              have hkc : crashRB R keep torn n k = S.last.getD k [] := by rw [HN.out.2.1]; unfold crashRB; rw [hdk, if_pos rfl, if_pos hkk]
              have hb := (Below.refl wo.heap.size wo).drew
              have hr : wo.rangeAt lb (k * 64) (bytesV (crashRB R keep torn n k)) := by
                have hll : k < S.last.length := by rw [HW.out.ok.ll, HSL.out]; exact hlt
                have h1 := HW.out.last.at_ k hll
                rw [hkc, List.getD_eq_getElem?_getD, List.getElem?_eq_getElem hll]
                exact h1
              have HT := Lib.hid ((HW.out.same hb).setSure (i := k) (b := crashRB R keep torn n k) (by rw [HSL.out]; exact hlt) HC64.out)
              have hgc := grownBy_cells (b := sb) (bytesV (crashRB R keep torn n k)) wo.drew (k * 64)
              have HVZ := Lib.hid ((HV.out.trans Rev.drew).trans (Rev.of (x := x) (sb := sb) (lb := lb) (tb := tb) hgc (.inr (.inl rfl))))
              have hOd : Ob wo.drew x 98 #[.slice (some ⟨sb, 0, none⟩) m m, .slice (some ⟨lb, 0, none⟩) m m, .slice (some ⟨tb, 0, none⟩) m m, .bool S.stops, .int .i64 S.left, .int .i64 S.wr, .int .i64 S.fl] := HO.out
              have hrd : wo.drew.rangeAt lb (k * 64) (bytesV (crashRB R keep torn n k)) := (World.rangeAt_drew _ _ _ _).2 hr
              have htd : wo.drew.there sb (k * 64) 64 := (World.there_drew _ _ _ _).2 (there_part HW.out.sure.there (by rw [HSL.out]; omega))
              have HSZ := Lib.hid (show (bytesV (crashRB R keep torn n k)).toArray.size = 64 by simp [bytesV_length, HC64.out])
              have HL := HC64
              obtain ⟨bs, hbs⟩ : ∃ bs, bs = crashRB R keep torn n k := ⟨_, rfl⟩
              rw [← hbs] at hrd HSZ HL HT HVZ
              have HBS := Lib.hid hbs
              clear hb hr hgc hkc hbs
              go_wp2_with fail
              refine Pu.regionM [(0, false), (1, false), (2, false), (3, false), (4, false), (5, false), (6, false), (7, false), (8, false), (9, false), (10, false), (11, false), (12, false), (13, true)] (fun V => Ob V x 98 #[.slice (some ⟨sb, 0, none⟩) m m, .slice (some ⟨lb, 0, none⟩) m m, .slice (some ⟨tb, 0, none⟩) m m, .bool S.stops, .int .i64 S.left, .int .i64 S.wr, .int .i64 S.fl] ∧ V.rangeAt lb (k * 64) (bytesV bs)) hmx (by kernel_rfl) (by kernel_rfl) (by kernel_rfl) ⟨hOd, hrd⟩ rfl ?_
              simp only [Pu.named, List.filterMap_cons, List.filterMap_nil, List.getElem?_toArray, List.getElem?_cons_succ, List.getElem?_cons_zero, Option.map_some]
              iterate 11 (first
                | (refine Pu.WalkM.off (by rfl) ?_; simp only [Act.put, List.setIfInBounds_toArray, List.set_cons_succ, List.set_cons_zero])
                | (apply Pu.WalkM.on (by rfl)
                   · intro V hV
                     obtain ⟨gO, gr⟩ := hV
                     have y0 := gO.cell (j := 0) (v := .slice (some ⟨sb, 0, none⟩) m m) rfl
                     have y1 := gO.cell (j := 1) (v := .slice (some ⟨lb, 0, none⟩) m m) rfl
                     have y2 := gO.cell (j := 2) (v := .slice (some ⟨tb, 0, none⟩) m m) rfl
                     go_wp2_with fail
                     refine ⟨rfl, ?_, rfl⟩
                     try simp only [Act.put, List.setIfInBounds_toArray, List.set_cons_succ, List.set_cons_zero]
                     rfl
                   simp only [Act.put, List.setIfInBounds_toArray, List.set_cons_succ, List.set_cons_zero]))
              apply Pu.WalkM.on (by rfl)
              · intro V hV
                obtain ⟨gO, gr⟩ := hV
                refine wpList_load_mid rfl 102 (.tmp 64) rfl lb (k * 64) rfl (bytesV bs) _ gr Try.underlying102 rfl (by rw [bytesV_length, HL.out]; kernel_rfl) ?_
                go_wp2_with fail
                refine ⟨rfl, ?_, rfl⟩
                try simp only [Act.put, List.setIfInBounds_toArray, List.set_cons_succ, List.set_cons_zero]
                rfl
              simp only [Act.put, List.setIfInBounds_toArray, List.set_cons_succ, List.set_cons_zero]
              iterate 1 (first
                | (refine Pu.WalkM.off (by rfl) ?_; simp only [Act.put, List.setIfInBounds_toArray, List.set_cons_succ, List.set_cons_zero])
                | (apply Pu.WalkM.on (by rfl)
                   · intro V hV
                     obtain ⟨gO, gr⟩ := hV
                     have y0 := gO.cell (j := 0) (v := .slice (some ⟨sb, 0, none⟩) m m) rfl
                     have y1 := gO.cell (j := 1) (v := .slice (some ⟨lb, 0, none⟩) m m) rfl
                     have y2 := gO.cell (j := 2) (v := .slice (some ⟨tb, 0, none⟩) m m) rfl
                     go_wp2_with fail
                     refine ⟨rfl, ?_, rfl⟩
                     try simp only [Act.put, List.setIfInBounds_toArray, List.set_cons_succ, List.set_cons_zero]
                     rfl
                   simp only [Act.put, List.setIfInBounds_toArray, List.set_cons_succ, List.set_cons_zero]))
              generalize hWd : wo.drew = WD at *
              clear hWd
              refine Pu.WalkM.make (by rfl) ?_
              intro V hV
              rw [hV]
              clear hV V
              refine wpList_store_mid rfl 102 (.tmp 66) (.tmp 65) rfl sb (k * 64) (bytesV bs).toArray rfl rfl (by rw [HSZ.out]; exact htd) (by rw [HSZ.out]; kernel_rfl) (all_oneCell_toArray (bytesV_one bs)) ?_
              have eT : (bytesV bs).toArray.toList = bytesV bs := by simp
              rw [eT]
              clear eT
              refine ⟨rfl, undef, (fun _ => True), (fun V => V = WD.setCells sb (k * 64) (bytesV bs)), rfl, rfl, (fun _ _ => trivial), (.inl (by kernel_rfl)), Pu.WalkM.nil ?_⟩
              intro V hV
              rw [hV]
              clear hV V
              simp only [Act.put]
              obtain ⟨WZ, hWZ⟩ : ∃ X : World, X = WD.setCells sb (k * 64) (bytesV bs) := ⟨_, rfl⟩
              rw [← hWZ] at HT HVZ ⊢
              rw [HBS.out] at HT
              clear hWZ hOd hrd htd HL HSZ HBS
              have hrs : WZ.rangeAt sb (k * 64) (bytesV (crashRB R keep torn n k)) := by
                have h1 := HT.out.sure.at_ k (by rw [List.length_set, HSL.out]; exact hlt)
                rw [List.getElem_set_self] at h1
                exact h1
              have hOz := HT.out.ob
              simp only [revC, List.length_set, HSL.out] at hOz
              have hb := (Below.refl WZ.heap.size WZ).drew
              have HTD := Lib.hid (HT.out.same hb)
              have HT1 := Lib.hid (HTD.out.setLast (i := k) (b := crashRB R keep torn n k) (by rw [List.length_set, HSL.out]; exact hlt) HC64.out)
              have hdl2 : k < S.dirty.length := by have := HT.out.ok.dl; rw [List.length_set, HSL.out] at this; show k < S.dirty.length; rw [this]; exact hlt
              have hc2 := HT1.out.dirty.cell (boolC_get hdl2)
              have hf2 := HT1.out.dirty.frozen k
              have HT2 := Lib.hid (show RvAt _ base x sb lb tb (crS R keep torn n (k + 1)) from by rw [HNEXT.out]; exact HT1.out.setDirty k false)
              have hgc := grownBy_cells (b := lb) (bytesV (crashRB R keep torn n k)) WZ.drew (k * 64)
              have HVS := Lib.hid ((HVZ.out.trans Rev.drew).trans ((Rev.of (x := x) (sb := sb) (lb := lb) (tb := tb) hgc (.inr (.inr (.inl rfl)))).trans (Rev.of (x := x) (sb := sb) (lb := lb) (tb := tb) (grownBy_set _ tb k (.bool false)) (.inr (.inr (.inr rfl))))))
              have hOd : Ob WZ.drew x 98 #[.slice (some ⟨sb, 0, none⟩) m m, .slice (some ⟨lb, 0, none⟩) m m, .slice (some ⟨tb, 0, none⟩) m m, .bool S.stops, .int .i64 S.left, .int .i64 S.wr, .int .i64 S.fl] := hOz
              have hrd : WZ.drew.rangeAt sb (k * 64) (bytesV (crashRB R keep torn n k)) := (World.rangeAt_drew _ _ _ _).2 hrs
              have htd : WZ.drew.there lb (k * 64) 64 := (World.there_drew _ _ _ _).2 (there_part HT.out.last.there (by have := HT.out.ok.ll; rw [List.length_set, HSL.out] at this; show k * 64 + 64 ≤ S.last.length * 64; rw [this]; omega))
              have hne := HT.out.ne
              have hOc := hOd.kept hgc (fun e => hne.2.1 (Option.some.inj e))
              have hrc := range_of_block (hgc.block sb (show sb < WZ.drew.heap.size from HT.out.sure.lt) (fun e => hne.2.2.2.1 (Option.some.inj e))) hrd
              generalize S.dirty.getD k false = od at *
              generalize hbs : crashRB R keep torn n k = bs at *
              have HSZ := Lib.hid (show (bytesV bs).toArray.size = 64 by simp [bytesV_length, HC64.out])
              have HL := Lib.hid HC64.out
              clear hrs hOz hb hdl2 hgc hbs HT HTD HVZ
              go_wp2_with fail
              refine Pu.regionM [(0, false), (1, false), (2, false), (3, false), (4, false), (5, false), (6, false), (7, false), (8, false), (9, false), (10, false), (11, false), (12, false), (13, false), (14, false), (15, false), (16, false), (17, false), (18, true), (19, false), (20, true)] (fun V => Ob V x 98 #[.slice (some ⟨sb, 0, none⟩) m m, .slice (some ⟨lb, 0, none⟩) m m, .slice (some ⟨tb, 0, none⟩) m m, .bool S.stops, .int .i64 S.left, .int .i64 S.wr, .int .i64 S.fl] ∧ V.rangeAt sb (k * 64) (bytesV bs)) hmx (by kernel_rfl) (by kernel_rfl) (by kernel_rfl) ⟨hOd, hrd⟩ rfl ?_
              simp only [Pu.named, List.filterMap_cons, List.filterMap_nil, List.getElem?_toArray, List.getElem?_cons_succ, List.getElem?_cons_zero, Option.map_some]
              iterate 16 (first
                | (refine Pu.WalkM.off (by rfl) ?_; simp only [Act.put, List.setIfInBounds_toArray, List.set_cons_succ, List.set_cons_zero])
                | (apply Pu.WalkM.on (by rfl)
                   · intro V hV
                     obtain ⟨gO, gr⟩ := hV
                     have y0 := gO.cell (j := 0) (v := .slice (some ⟨sb, 0, none⟩) m m) rfl
                     have y1 := gO.cell (j := 1) (v := .slice (some ⟨lb, 0, none⟩) m m) rfl
                     have y2 := gO.cell (j := 2) (v := .slice (some ⟨tb, 0, none⟩) m m) rfl
                     go_wp2_with fail
                     refine ⟨rfl, ?_, rfl⟩
                     try simp only [Act.put, List.setIfInBounds_toArray, List.set_cons_succ, List.set_cons_zero]
                     rfl
                   simp only [Act.put, List.setIfInBounds_toArray, List.set_cons_succ, List.set_cons_zero]))
              apply Pu.WalkM.on (by rfl)
              · intro V hV
                obtain ⟨gO, gr⟩ := hV
                refine wpList_load_mid rfl 102 (.tmp 108) rfl sb (k * 64) rfl (bytesV bs) _ gr Try.underlying102 rfl (by rw [bytesV_length, HL.out]; kernel_rfl) ?_
                go_wp2_with fail
                refine ⟨rfl, ?_, rfl⟩
                try simp only [Act.put, List.setIfInBounds_toArray, List.set_cons_succ, List.set_cons_zero]
                rfl
              simp only [Act.put, List.setIfInBounds_toArray, List.set_cons_succ, List.set_cons_zero]
              iterate 1 (first
                | (refine Pu.WalkM.off (by rfl) ?_; simp only [Act.put, List.setIfInBounds_toArray, List.set_cons_succ, List.set_cons_zero])
                | (apply Pu.WalkM.on (by rfl)
                   · intro V hV
                     obtain ⟨gO, gr⟩ := hV
                     have y0 := gO.cell (j := 0) (v := .slice (some ⟨sb, 0, none⟩) m m) rfl
                     have y1 := gO.cell (j := 1) (v := .slice (some ⟨lb, 0, none⟩) m m) rfl
                     have y2 := gO.cell (j := 2) (v := .slice (some ⟨tb, 0, none⟩) m m) rfl
                     go_wp2_with fail
                     refine ⟨rfl, ?_, rfl⟩
                     try simp only [Act.put, List.setIfInBounds_toArray, List.set_cons_succ, List.set_cons_zero]
                     rfl
                   simp only [Act.put, List.setIfInBounds_toArray, List.set_cons_succ, List.set_cons_zero]))
              generalize hWd : WZ.drew = WD at *
              clear hWd
              refine Pu.WalkM.make (by rfl) ?_
              intro V hV
              rw [hV]
              clear hV V
              refine wpList_store_mid rfl 102 (.tmp 110) (.tmp 109) rfl lb (k * 64) (bytesV bs).toArray rfl rfl (by rw [HSZ.out]; exact htd) (by rw [HSZ.out]; kernel_rfl) (all_oneCell_toArray (bytesV_one bs)) ?_
              have eT : (bytesV bs).toArray.toList = bytesV bs := by simp
              rw [eT]
              clear eT
              refine ⟨rfl, undef, _, (fun V => V = WD.setCells lb (k * 64) (bytesV bs)), rfl, rfl, (fun V h => by rw [h]; exact ⟨hOc, hrc⟩), (.inr (fun _ h => h)), ?_⟩
              simp only [Act.put]
              generalize hWe : WD.setCells lb (k * 64) (bytesV bs) = WE at *
              clear hWe
              iterate 1 (first
                | (refine Pu.WalkM.off (by rfl) ?_; simp only [Act.put, List.setIfInBounds_toArray, List.set_cons_succ, List.set_cons_zero])
                | (apply Pu.WalkM.on (by rfl)
                   · intro V hV
                     obtain ⟨gO, gr⟩ := hV
                     have y0 := gO.cell (j := 0) (v := .slice (some ⟨sb, 0, none⟩) m m) rfl
                     have y1 := gO.cell (j := 1) (v := .slice (some ⟨lb, 0, none⟩) m m) rfl
                     have y2 := gO.cell (j := 2) (v := .slice (some ⟨tb, 0, none⟩) m m) rfl
                     go_wp2_with fail
                     refine ⟨rfl, ?_, rfl⟩
                     try simp only [Act.put, List.setIfInBounds_toArray, List.set_cons_succ, List.set_cons_zero]
                     rfl
                   simp only [Act.put, List.setIfInBounds_toArray, List.set_cons_succ, List.set_cons_zero]))
              refine Pu.WalkM.make (by rfl) ?_
              intro V hV
              rw [hV]
              clear hV V
              go_wp2_with fail
              refine ⟨rfl, undef, (fun _ => True), (fun V => V = WE.setCell ⟨tb, k, none⟩ (.bool false)), rfl, rfl, (fun _ _ => trivial), (.inl (by kernel_rfl)), Pu.WalkM.nil ?_⟩
              intro V hV
              rw [hV]
              clear hV V
              simp only [Act.put]
              clear hc2 hf2 hOd hrd htd hOc hrc
              go_wp2
              exact ⟨⟨k + 1, by omega, by go_num, HT2.out, HVS.out⟩, by simp [intOf]; omega⟩
            · by_cases htt : (k : Int) = torn
              · rw [hdk] at hdc
                have hkp : decide ((k : Int) ∈ keep) = false := by simpa using hkk
                have htq : ((k : Int) == torn) = true := by simpa using htt
                have HCE := Lib.hid (show crashRB R keep torn n k = partB (S.sure.getD k []) (S.last.getD k []) n by rw [HN.out.1, HN.out.2.1]; unfold crashRB partB; rw [hdk, if_pos rfl, if_neg hkk, if_pos htt])
                have hls := surer_len HW.out.ok (i := k) (by rw [HSL.out]; exact hlt)
                have hll := last_len HW.out.ok (i := k) (by rw [HSL.out]; exact hlt)
                have HLS := Lib.hid hls
                have HLL := Lib.hid hll
                clear hls hll htt
                go_wp2_with fail
                go_loopw [12] (fun q wr => ∃ j : Nat, j ≤ n ∧ q = .int .i64 j ∧ RvAt wr base x sb lb tb { S with sure := S.sure.set k (partB (S.sure.getD k []) (S.last.getD k []) j) } ∧ Rev x sb lb tb w wr) (fun q _ => n - (intOf q).toNat)
                case atStart => exact ⟨0, by omega, rfl, by rw [partB_zero, set_getD]; exact HW.out, HV.out⟩
                case round =>
                  obtain ⟨j, hj, rfl, hT, hVT⟩ := hrel
                  clear yy0 yy2 hdc
                  by_cases hjn : j < n
                  · have hdj : decide ((j : Int) < (n : Int)) = true := by simp; omega
                    have hdj' : decide (j < n) = true := by simpa using hjn
                    have hd64 : decide ((j : Int) < 64) = true := by simp; omega
                    have hOt := hT.ob
                    simp only [revC, List.length_set, HSL.out] at hOt
                    have hb := (Below.refl wr.heap.size wr).drew
                    have hTD := hT.same hb
                    have hlk : k < S.last.length := by have := hT.ok.ll; rw [List.length_set, HSL.out] at this; show k < S.last.length; rw [this]; exact hlt
                    have hcl : wr.drew.cell? ⟨lb, k * 64 + j, none⟩ = some (.int .u8 (((S.last.getD k []).getD j 0).toNat : Int)) := hTD.last.at_ k hlk j _ (by
                      have e1 : S.last[k] = S.last.getD k [] := by rw [List.getD_eq_getElem?_getD, List.getElem?_eq_getElem hlk]; rfl
                      rw [e1]
                      exact bytesV_getD (by rw [HLL.out]; omega))
                    have hsk : k < (S.sure.set k (partB (S.sure.getD k []) (S.last.getD k []) j)).length := by rw [List.length_set, HSL.out]; exact hlt
                    have hcs := hTD.sure.at_ k hsk j (.int .u8 (((partB (S.sure.getD k []) (S.last.getD k []) j).getD j 0).toNat : Int)) (by
                      rw [List.getElem_set_self]
                      exact bytesV_getD (by rw [partB_len HLS.out HLL.out (by omega)]; omega))
                    have hfs := (hTD.sure.there (k * 64 + j) (by rw [List.length_set, HSL.out]; omega)).2
                    rw [Nat.zero_add] at hfs
                    have hst := hTD.sureByte (i := k) (j := j) (by rw [List.length_set, HSL.out]; exact hlt) (by omega) ((S.last.getD k []).getD j 0)
                    dsimp only at hst
                    rw [getD_set_self (by rw [HSL.out]; exact hlt), List.set_set, partB_step HLS.out HLL.out (by omega)] at hst
                    have HST := Lib.hid hst
                    have hgl := grownBy_set wr.drew sb (k * 64 + j) (.int .u8 (((S.last.getD k []).getD j 0).toNat : Int))
                    have HVS := Lib.hid ((hVT.trans Rev.drew).trans (Rev.of (x := x) (sb := sb) (lb := lb) (tb := tb) hgl (.inr (.inl rfl))))
                    have hOd : Ob wr.drew x 98 #[.slice (some ⟨sb, 0, none⟩) m m, .slice (some ⟨lb, 0, none⟩) m m, .slice (some ⟨tb, 0, none⟩) m m, .bool S.stops, .int .i64 S.left, .int .i64 S.wr, .int .i64 S.fl] := hOt
                    have hOe := hOd.kept hgl (fun e => hT.ne.1 (Option.some.inj e))
                    have hce := hgl.cell hcl (fun e => hT.ne.2.2.2.1 (Option.some.inj e).symm)
                    generalize ((partB (S.sure.getD k []) (S.last.getD k []) j).getD j 0) = old at *
                    generalize ((S.last.getD k []).getD j 0) = cc at *
                    clear hT hVT hb hTD hlk hsk hst hgl
                    have zz0 := hOt.cell (j := 0) (v := .slice (some ⟨sb, 0, none⟩) m m) rfl
                    clear hOt zz0
                    go_wp2_with fail
                    refine Pu.regionM [(0, false), (1, false), (2, false), (3, false), (4, false), (5, false), (6, false), (7, false), (8, false), (9, false), (10, false), (11, false), (12, false), (13, false), (14, false), (15, false), (16, false), (17, true)] (fun V => Ob V x 98 #[.slice (some ⟨sb, 0, none⟩) m m, .slice (some ⟨lb, 0, none⟩) m m, .slice (some ⟨tb, 0, none⟩) m m, .bool S.stops, .int .i64 S.left, .int .i64 S.wr, .int .i64 S.fl] ∧ V.cell? ⟨lb, k * 64 + j, none⟩ = some (.int .u8 (cc.toNat : Int))) hmx (by kernel_rfl) (by kernel_rfl) (by kernel_rfl) ⟨hOd, hcl⟩ rfl ?_
                    simp only [Pu.named, List.filterMap_cons, List.filterMap_nil, List.getElem?_toArray, List.getElem?_cons_succ, List.getElem?_cons_zero, Option.map_some]
                    iterate 17 (first
                      | (refine Pu.WalkM.off (by rfl) ?_; simp only [Act.put, List.setIfInBounds_toArray, List.set_cons_succ, List.set_cons_zero])
                      | (apply Pu.WalkM.on (by rfl)
                         · intro V hV
                           obtain ⟨gO, gr⟩ := hV
                           have y0 := gO.cell (j := 0) (v := .slice (some ⟨sb, 0, none⟩) m m) rfl
                           have y1 := gO.cell (j := 1) (v := .slice (some ⟨lb, 0, none⟩) m m) rfl
                           have y2 := gO.cell (j := 2) (v := .slice (some ⟨tb, 0, none⟩) m m) rfl
                           go_wp2_with fail
                           refine ⟨rfl, ?_, rfl⟩
                           try simp only [Act.put, List.setIfInBounds_toArray, List.set_cons_succ, List.set_cons_zero]
                           rfl
                         simp only [Act.put, List.setIfInBounds_toArray, List.set_cons_succ, List.set_cons_zero]))
                    refine Pu.WalkM.make (by rfl) ?_
                    intro V hV
                    rw [hV]
                    clear hV V
                    generalize hWd : wr.drew = WD at *
                    clear hWd
                    go_wp2_with fail
                    refine ⟨rfl, undef, _, (fun V => V = WD.setCell ⟨sb, k * 64 + j, none⟩ (.int .u8 (cc.toNat : Int))), rfl, rfl, (fun V h => by rw [h]; exact ⟨hOe, hce⟩), (.inr (fun _ h => h)), Pu.WalkM.nil ?_⟩
                    intro V hV
                    rw [hV]
                    clear hV V
                    simp only [Act.put]
                    clear hcl hcs hfs hOd hOe hce
                    go_wp2
                    exact ⟨⟨j + 1, by omega, by go_num, HST.out, HVS.out⟩, by simp [intOf]; omega⟩
                  · obtain rfl : j = n := by omega
                    have hdj : decide ((j : Int) < (j : Int)) = false := by simp
                    have hdj' : decide (j < j) = false := by simp
                    rw [← HCE.out] at hT
                    have HT := Lib.hid hT
                    have HVZ := Lib.hid hVT
                    obtain ⟨WZ, hWZ⟩ : ∃ X : World, X = wr := ⟨_, rfl⟩
                    rw [← hWZ] at HT HVZ ⊢
                    clear hWZ hT hVT HCE
                    have hrs : WZ.rangeAt sb (k * 64) (bytesV (crashRB R keep torn j k)) := by
                      have h1 := HT.out.sure.at_ k (by rw [List.length_set, HSL.out]; exact hlt)
                      rw [List.getElem_set_self] at h1
                      exact h1
                    have hOz := HT.out.ob
                    simp only [revC, List.length_set, HSL.out] at hOz
                    have hb := (Below.refl WZ.heap.size WZ).drew
                    have HTD := Lib.hid (HT.out.same hb)
                    have HT1 := Lib.hid (HTD.out.setLast (i := k) (b := crashRB R keep torn j k) (by rw [List.length_set, HSL.out]; exact hlt) HC64.out)
                    have hdl2 : k < S.dirty.length := by have := HT.out.ok.dl; rw [List.length_set, HSL.out] at this; show k < S.dirty.length; rw [this]; exact hlt
                    have hc2 := HT1.out.dirty.cell (boolC_get hdl2)
                    have hf2 := HT1.out.dirty.frozen k
                    have HT2 := Lib.hid (show RvAt _ base x sb lb tb (crS R keep torn j (k + 1)) from by rw [HNEXT.out]; exact HT1.out.setDirty k false)
                    have hgc := grownBy_cells (b := lb) (bytesV (crashRB R keep torn j k)) WZ.drew (k * 64)
                    have HVS := Lib.hid ((HVZ.out.trans Rev.drew).trans ((Rev.of (x := x) (sb := sb) (lb := lb) (tb := tb) hgc (.inr (.inr (.inl rfl)))).trans (Rev.of (x := x) (sb := sb) (lb := lb) (tb := tb) (grownBy_set _ tb k (.bool false)) (.inr (.inr (.inr rfl))))))
                    have hOd : Ob WZ.drew x 98 #[.slice (some ⟨sb, 0, none⟩) m m, .slice (some ⟨lb, 0, none⟩) m m, .slice (some ⟨tb, 0, none⟩) m m, .bool S.stops, .int .i64 S.left, .int .i64 S.wr, .int .i64 S.fl] := hOz
                    have hrd : WZ.drew.rangeAt sb (k * 64) (bytesV (crashRB R keep torn j k)) := (World.rangeAt_drew _ _ _ _).2 hrs
                    have htd : WZ.drew.there lb (k * 64) 64 := (World.there_drew _ _ _ _).2 (there_part HT.out.last.there (by have := HT.out.ok.ll; rw [List.length_set, HSL.out] at this; show k * 64 + 64 ≤ S.last.length * 64; rw [this]; omega))
                    have hne := HT.out.ne
                    have hOc := hOd.kept hgc (fun e => hne.2.1 (Option.some.inj e))
                    have hrc := range_of_block (hgc.block sb (show sb < WZ.drew.heap.size from HT.out.sure.lt) (fun e => hne.2.2.2.1 (Option.some.inj e))) hrd
                    generalize S.dirty.getD k false = od at *
                    generalize hbs : crashRB R keep torn j k = bs at *
                    have HSZ := Lib.hid (show (bytesV bs).toArray.size = 64 by simp [bytesV_length, HC64.out])
                    have HL := Lib.hid HC64.out
                    clear hrs hOz hb hdl2 hgc hbs HT HTD HVZ
                    go_wp2_with fail
                    refine Pu.regionM [(0, false), (1, false), (2, false), (3, false), (4, false), (5, false), (6, false), (7, false), (8, false), (9, false), (10, false), (11, false), (12, false), (13, false), (14, false), (15, false), (16, false), (17, false), (18, true), (19, false), (20, true)] (fun V => Ob V x 98 #[.slice (some ⟨sb, 0, none⟩) m m, .slice (some ⟨lb, 0, none⟩) m m, .slice (some ⟨tb, 0, none⟩) m m, .bool S.stops, .int .i64 S.left, .int .i64 S.wr, .int .i64 S.fl] ∧ V.rangeAt sb (k * 64) (bytesV bs)) hmx (by kernel_rfl) (by kernel_rfl) (by kernel_rfl) ⟨hOd, hrd⟩ rfl ?_
                    simp only [Pu.named, List.filterMap_cons, List.filterMap_nil, List.getElem?_toArray, List.getElem?_cons_succ, List.getElem?_cons_zero, Option.map_some]
                    iterate 16 (first
                      | (refine Pu.WalkM.off (by rfl) ?_; simp only [Act.put, List.setIfInBounds_toArray, List.set_cons_succ, List.set_cons_zero])
                      | (apply Pu.WalkM.on (by rfl)
                         · intro V hV
                           obtain ⟨gO, gr⟩ := hV
                           have y0 := gO.cell (j := 0) (v := .slice (some ⟨sb, 0, none⟩) m m) rfl
                           have y1 := gO.cell (j := 1) (v := .slice (some ⟨lb, 0, none⟩) m m) rfl
                           have y2 := gO.cell (j := 2) (v := .slice (some ⟨tb, 0, none⟩) m m) rfl
                           go_wp2_with fail
                           refine ⟨rfl, ?_, rfl⟩
                           try simp only [Act.put, List.setIfInBounds_toArray, List.set_cons_succ, List.set_cons_zero]
                           rfl
                         simp only [Act.put, List.setIfInBounds_toArray, List.set_cons_succ, List.set_cons_zero]))
                    apply Pu.WalkM.on (by rfl)
                    · intro V hV
                      obtain ⟨gO, gr⟩ := hV
                      refine wpList_load_mid rfl 102 (.tmp 108) rfl sb (k * 64) rfl (bytesV bs) _ gr Try.underlying102 rfl (by rw [bytesV_length, HL.out]; kernel_rfl) ?_
                      go_wp2_with fail
                      refine ⟨rfl, ?_, rfl⟩
                      try simp only [Act.put, List.setIfInBounds_toArray, List.set_cons_succ, List.set_cons_zero]
                      rfl
                    simp only [Act.put, List.setIfInBounds_toArray, List.set_cons_succ, List.set_cons_zero]
                    iterate 1 (first
                      | (refine Pu.WalkM.off (by rfl) ?_; simp only [Act.put, List.setIfInBounds_toArray, List.set_cons_succ, List.set_cons_zero])
                      | (apply Pu.WalkM.on (by rfl)
                         · intro V hV
                           obtain ⟨gO, gr⟩ := hV
                           have y0 := gO.cell (j := 0) (v := .slice (some ⟨sb, 0, none⟩) m m) rfl
                           have y1 := gO.cell (j := 1) (v := .slice (some ⟨lb, 0, none⟩) m m) rfl
                           have y2 := gO.cell (j := 2) (v := .slice (some ⟨tb, 0, none⟩) m m) rfl
                           go_wp2_with fail
                           refine ⟨rfl, ?_, rfl⟩
                           try simp only [Act.put, List.setIfInBounds_toArray, List.set_cons_succ, List.set_cons_zero]
                           rfl
                         simp only [Act.put, List.setIfInBounds_toArray, List.set_cons_succ, List.set_cons_zero]))
                    generalize hWd : WZ.drew = WD at *
                    clear hWd
                    refine Pu.WalkM.make (by rfl) ?_
                    intro V hV
                    rw [hV]
                    clear hV V
                    refine wpList_store_mid rfl 102 (.tmp 110) (.tmp 109) rfl lb (k * 64) (bytesV bs).toArray rfl rfl (by rw [HSZ.out]; exact htd) (by rw [HSZ.out]; kernel_rfl) (all_oneCell_toArray (bytesV_one bs)) ?_
                    have eT : (bytesV bs).toArray.toList = bytesV bs := by simp
                    rw [eT]
                    clear eT
                    refine ⟨rfl, undef, _, (fun V => V = WD.setCells lb (k * 64) (bytesV bs)), rfl, rfl, (fun V h => by rw [h]; exact ⟨hOc, hrc⟩), (.inr (fun _ h => h)), ?_⟩
                    simp only [Act.put]
                    generalize hWe : WD.setCells lb (k * 64) (bytesV bs) = WE at *
                    clear hWe
                    iterate 1 (first
                      | (refine Pu.WalkM.off (by rfl) ?_; simp only [Act.put, List.setIfInBounds_toArray, List.set_cons_succ, List.set_cons_zero])
                      | (apply Pu.WalkM.on (by rfl)
                         · intro V hV
                           obtain ⟨gO, gr⟩ := hV
                           have y0 := gO.cell (j := 0) (v := .slice (some ⟨sb, 0, none⟩) m m) rfl
                           have y1 := gO.cell (j := 1) (v := .slice (some ⟨lb, 0, none⟩) m m) rfl
                           have y2 := gO.cell (j := 2) (v := .slice (some ⟨tb, 0, none⟩) m m) rfl
                           go_wp2_with fail
                           refine ⟨rfl, ?_, rfl⟩
                           try simp only [Act.put, List.setIfInBounds_toArray, List.set_cons_succ, List.set_cons_zero]
                           rfl
                         simp only [Act.put, List.setIfInBounds_toArray, List.set_cons_succ, List.set_cons_zero]))
                    refine Pu.WalkM.make (by rfl) ?_
                    intro V hV
                    rw [hV]
                    clear hV V
                    go_wp2_with fail
                    refine ⟨rfl, undef, (fun _ => True), (fun V => V = WE.setCell ⟨tb, k, none⟩ (.bool false)), rfl, rfl, (fun _ _ => trivial), (.inl (by kernel_rfl)), Pu.WalkM.nil ?_⟩
                    intro V hV
                    rw [hV]
                    clear hV V
                    simp only [Act.put]
                    clear hc2 hf2 hOd hrd htd hOc hrc
                    go_wp2
                    exact ⟨⟨k + 1, by omega, by go_num, HT2.out, HVS.out⟩, by simp [intOf]; omega⟩
              · rw [hdk] at hdc
                have hkp : decide ((k : Int) ∈ keep) = false := by simpa using hkk
                have htq : ((k : Int) == torn) = false := by simpa using htt
                have HCE := Lib.hid (show crashRB R keep torn n k = S.sure.getD k [] by rw [HN.out.1]; unfold crashRB; rw [hdk, if_pos rfl, if_neg hkk, if_neg htt])
                have HT := Lib.hid (show RvAt wo base x sb lb tb { S with sure := S.sure.set k (crashRB R keep torn n k) } by rw [HCE.out, set_getD]; exact HW.out)
                have HVZ := HV
                obtain ⟨WZ, hWZ⟩ : ∃ X : World, X = wo := ⟨_, rfl⟩
                rw [← hWZ] at HT HVZ yy0 yy2 hdc ⊢
                clear hWZ HCE yy0
                have hrs : WZ.rangeAt sb (k * 64) (bytesV (crashRB R keep torn n k)) := by
                  have h1 := HT.out.sure.at_ k (by rw [List.length_set, HSL.out]; exact hlt)
                  rw [List.getElem_set_self] at h1
                  exact h1
                have hOz := HT.out.ob
                simp only [revC, List.length_set, HSL.out] at hOz
                have hb := (Below.refl WZ.heap.size WZ).drew
                have HTD := Lib.hid (HT.out.same hb)
                have HT1 := Lib.hid (HTD.out.setLast (i := k) (b := crashRB R keep torn n k) (by rw [List.length_set, HSL.out]; exact hlt) HC64.out)
                have hdl2 : k < S.dirty.length := by have := HT.out.ok.dl; rw [List.length_set, HSL.out] at this; show k < S.dirty.length; rw [this]; exact hlt
                have hc2 := HT1.out.dirty.cell (boolC_get hdl2)
                have hf2 := HT1.out.dirty.frozen k
                have HT2 := Lib.hid (show RvAt _ base x sb lb tb (crS R keep torn n (k + 1)) from by rw [HNEXT.out]; exact HT1.out.setDirty k false)
                have hgc := grownBy_cells (b := lb) (bytesV (crashRB R keep torn n k)) WZ.drew (k * 64)
                have HVS := Lib.hid ((HVZ.out.trans Rev.drew).trans ((Rev.of (x := x) (sb := sb) (lb := lb) (tb := tb) hgc (.inr (.inr (.inl rfl)))).trans (Rev.of (x := x) (sb := sb) (lb := lb) (tb := tb) (grownBy_set _ tb k (.bool false)) (.inr (.inr (.inr rfl))))))
                have hOd : Ob WZ.drew x 98 #[.slice (some ⟨sb, 0, none⟩) m m, .slice (some ⟨lb, 0, none⟩) m m, .slice (some ⟨tb, 0, none⟩) m m, .bool S.stops, .int .i64 S.left, .int .i64 S.wr, .int .i64 S.fl] := hOz
                have hrd : WZ.drew.rangeAt sb (k * 64) (bytesV (crashRB R keep torn n k)) := (World.rangeAt_drew _ _ _ _).2 hrs
                have htd : WZ.drew.there lb (k * 64) 64 := (World.there_drew _ _ _ _).2 (there_part HT.out.last.there (by have := HT.out.ok.ll; rw [List.length_set, HSL.out] at this; show k * 64 + 64 ≤ S.last.length * 64; rw [this]; omega))
                have hne := HT.out.ne
                have hOc := hOd.kept hgc (fun e => hne.2.1 (Option.some.inj e))
                have hrc := range_of_block (hgc.block sb (show sb < WZ.drew.heap.size from HT.out.sure.lt) (fun e => hne.2.2.2.1 (Option.some.inj e))) hrd
                generalize S.dirty.getD k false = od at *
                generalize hbs : crashRB R keep torn n k = bs at *
                have HSZ := Lib.hid (show (bytesV bs).toArray.size = 64 by simp [bytesV_length, HC64.out])
                have HL := Lib.hid HC64.out
                clear hrs hOz hb hdl2 hgc hbs HT HTD HVZ
                go_wp2_with fail
                refine Pu.regionM [(0, false), (1, false), (2, false), (3, false), (4, false), (5, false), (6, false), (7, false), (8, false), (9, false), (10, false), (11, false), (12, false), (13, false), (14, false), (15, false), (16, false), (17, false), (18, true), (19, false), (20, true)] (fun V => Ob V x 98 #[.slice (some ⟨sb, 0, none⟩) m m, .slice (some ⟨lb, 0, none⟩) m m, .slice (some ⟨tb, 0, none⟩) m m, .bool S.stops, .int .i64 S.left, .int .i64 S.wr, .int .i64 S.fl] ∧ V.rangeAt sb (k * 64) (bytesV bs)) hmx (by kernel_rfl) (by kernel_rfl) (by kernel_rfl) ⟨hOd, hrd⟩ rfl ?_
                simp only [Pu.named, List.filterMap_cons, List.filterMap_nil, List.getElem?_toArray, List.getElem?_cons_succ, List.getElem?_cons_zero, Option.map_some]
                iterate 16 (first
                  | (refine Pu.WalkM.off (by rfl) ?_; simp only [Act.put, List.setIfInBounds_toArray, List.set_cons_succ, List.set_cons_zero])
                  | (apply Pu.WalkM.on (by rfl)
                     · intro V hV
                       obtain ⟨gO, gr⟩ := hV
                       have y0 := gO.cell (j := 0) (v := .slice (some ⟨sb, 0, none⟩) m m) rfl
                       have y1 := gO.cell (j := 1) (v := .slice (some ⟨lb, 0, none⟩) m m) rfl
                       have y2 := gO.cell (j := 2) (v := .slice (some ⟨tb, 0, none⟩) m m) rfl
                       go_wp2_with fail
                       refine ⟨rfl, ?_, rfl⟩
                       try simp only [Act.put, List.setIfInBounds_toArray, List.set_cons_succ, List.set_cons_zero]
                       rfl
                     simp only [Act.put, List.setIfInBounds_toArray, List.set_cons_succ, List.set_cons_zero]))
                apply Pu.WalkM.on (by rfl)
                · intro V hV
                  obtain ⟨gO, gr⟩ := hV
                  refine wpList_load_mid rfl 102 (.tmp 108) rfl sb (k * 64) rfl (bytesV bs) _ gr Try.underlying102 rfl (by rw [bytesV_length, HL.out]; kernel_rfl) ?_
                  go_wp2_with fail
                  refine ⟨rfl, ?_, rfl⟩
                  try simp only [Act.put, List.setIfInBounds_toArray, List.set_cons_succ, List.set_cons_zero]
                  rfl
                simp only [Act.put, List.setIfInBounds_toArray, List.set_cons_succ, List.set_cons_zero]
                iterate 1 (first
                  | (refine Pu.WalkM.off (by rfl) ?_; simp only [Act.put, List.setIfInBounds_toArray, List.set_cons_succ, List.set_cons_zero])
                  | (apply Pu.WalkM.on (by rfl)
                     · intro V hV
                       obtain ⟨gO, gr⟩ := hV
                       have y0 := gO.cell (j := 0) (v := .slice (some ⟨sb, 0, none⟩) m m) rfl
                       have y1 := gO.cell (j := 1) (v := .slice (some ⟨lb, 0, none⟩) m m) rfl
                       have y2 := gO.cell (j := 2) (v := .slice (some ⟨tb, 0, none⟩) m m) rfl
                       go_wp2_with fail
                       refine ⟨rfl, ?_, rfl⟩
                       try simp only [Act.put, List.setIfInBounds_toArray, List.set_cons_succ, List.set_cons_zero]
                       rfl
                     simp only [Act.put, List.setIfInBounds_toArray, List.set_cons_succ, List.set_cons_zero]))
                generalize hWd : WZ.drew = WD at *
                clear hWd
                refine Pu.WalkM.make (by rfl) ?_
                intro V hV
                rw [hV]
                clear hV V
                refine wpList_store_mid rfl 102 (.tmp 110) (.tmp 109) rfl lb (k * 64) (bytesV bs).toArray rfl rfl (by rw [HSZ.out]; exact htd) (by rw [HSZ.out]; kernel_rfl) (all_oneCell_toArray (bytesV_one bs)) ?_
                have eT : (bytesV bs).toArray.toList = bytesV bs := by simp
                rw [eT]
                clear eT
                refine ⟨rfl, undef, _, (fun V => V = WD.setCells lb (k * 64) (bytesV bs)), rfl, rfl, (fun V h => by rw [h]; exact ⟨hOc, hrc⟩), (.inr (fun _ h => h)), ?_⟩
                simp only [Act.put]
                generalize hWe : WD.setCells lb (k * 64) (bytesV bs) = WE at *
                clear hWe
                iterate 1 (first
                  | (refine Pu.WalkM.off (by rfl) ?_; simp only [Act.put, List.setIfInBounds_toArray, List.set_cons_succ, List.set_cons_zero])
                  | (apply Pu.WalkM.on (by rfl)
                     · intro V hV
                       obtain ⟨gO, gr⟩ := hV
                       have y0 := gO.cell (j := 0) (v := .slice (some ⟨sb, 0, none⟩) m m) rfl
                       have y1 := gO.cell (j := 1) (v := .slice (some ⟨lb, 0, none⟩) m m) rfl
                       have y2 := gO.cell (j := 2) (v := .slice (some ⟨tb, 0, none⟩) m m) rfl
                       go_wp2_with fail
                       refine ⟨rfl, ?_, rfl⟩
                       try simp only [Act.put, List.setIfInBounds_toArray, List.set_cons_succ, List.set_cons_zero]
                       rfl
                     simp only [Act.put, List.setIfInBounds_toArray, List.set_cons_succ, List.set_cons_zero]))
                refine Pu.WalkM.make (by rfl) ?_
                intro V hV
                rw [hV]
                clear hV V
                go_wp2_with fail
                refine ⟨rfl, undef, (fun _ => True), (fun V => V = WE.setCell ⟨tb, k, none⟩ (.bool false)), rfl, rfl, (fun _ _ => trivial), (.inl (by kernel_rfl)), Pu.WalkM.nil ?_⟩
                intro V hV
                rw [hV]
                clear hV V
                simp only [Act.put]
                clear hc2 hf2 hOd hrd htd hOc hrc
                go_wp2
                exact ⟨⟨k + 1, by omega, by go_num, HT2.out, HVS.out⟩, by simp [intOf]; omega⟩
    · obtain rfl : k = m := by omega
      have hd : decide ((k : Int) < (k : Int)) = false := by simp
      have hd' : decide (k < k) = false := by simp
      have hfx := hO.frozen 3
      have hst := hW.ob.set 3 (.bool false)
      have hg3 := grownBy_set wo x 3 (.bool false)
      have hSA := HALL.out rfl
      subst hSA
      have hok3 : OkR { R with sure := (List.range R.sure.length).map (crashRB R keep torn n), last := (List.range R.sure.length).map (crashRB R keep torn n), dirty := List.replicate R.sure.length false, stops := false } := by
        have := hW.ok
        exact ⟨this.sure, this.last, this.ll, this.dl, this.left, this.wr, this.fl⟩
      have HW3 := Lib.hid (hW.own (R' := { R with sure := (List.range R.sure.length).map (crashRB R keep torn n), last := (List.range R.sure.length).map (crashRB R keep torn n), dirty := List.replicate R.sure.length false, stops := false }) hg3 hst rfl rfl rfl hok3)
      have HV3 := Lib.hid (hV.trans (Rev.of (sb := sb) (lb := lb) (tb := tb) hg3 (.inl rfl)))
      have yy3 := hO.cell (j := 3) (v := .bool R.stops) rfl
      clear hW hV hO hst hg3 hok3
      go_wp2
      go_ret
      exact ⟨rfl, HW3.out, HV3.out⟩
theorem rcrash_calls (h : RvAt w base x sb lb tb R) (keep : List Int) (kv : Value) (lo B : Nat) (hK : IntsAt w lo B kv keep) (hF : ∀ i, lo ≤ i → i < B → i < w.heap.size ∧ i ≠ x ∧ i ≠ sb ∧ i ≠ lb ∧ i ≠ tb) (torn n : Int) :
    Calls Try.prog 32 #[.pointer (some ⟨x, 0, none⟩), kv, .int .i64 torn, .int .i64 n] w fun e w' => e = .returned (.int .i64 (crashR R keep torn n).2) ∧ RvAt w' base x sb lb tb (crashR R keep torn n).1 ∧ Rev x sb lb tb w w' := by
  unfold crashR
  by_cases hn : n < 0 ∨ 64 < n
  · rw [if_pos hn]
    refine (rcrash_arg kv torn n hn w x).mono ?_
    rintro e W ⟨rfl, rfl⟩
    exact ⟨rfl, h, Rev.refl _⟩
  · obtain ⟨k, rfl⟩ := Int.eq_ofNat_of_zero_le (show 0 ≤ n by omega)
    rw [if_neg hn]
    exact rcrash_good h keep kv lo B hK hF torn k (by omega)
end
end Se
end Go.Proofs.Yteiniahikhiadaa

namespace Go.Proofs.Yteiniahikhiadaa
open Go.RowKit Go.Maps
namespace Se
open Ce
theorem madeBools (n : Nat) : madeCells (Value.bool false).cells (n * 1) = boolC (List.replicate n false) := by
  have hz : (Value.bool false).cells = #[.bool false] := rfl
  unfold madeCells boolC
  rw [hz]
  apply Array.ext
  · simp
  · intro i h1 h2
    simp [Nat.mod_one]
/-- a row of zeros, made, in a block of its own -/
theorem SureAt.block {w : World} {g n : Nat} {z : Array Value} (hz : z = Array.replicate 64 (.int .u8 0)) {e : TypeId} (h : Ob w g e (madeCells z (n * 64))) : SureAt w g (List.replicate n (List.replicate 64 0)) := by
  have hc : ∀ k, k < n * 64 → w.cell? ⟨g, k, none⟩ = some (.int .u8 0) := fun k hk => h.cell (by
    unfold madeCells
    rw [Array.getElem?_map, Array.getElem?_range, if_pos hk]
    subst hz
    have : k % 64 < 64 := Nat.mod_lt _ (by omega)
    simp [this])
  refine ⟨fun i hi j v hv => ?_, fun j hj => ?_, h.lt⟩
  · rw [List.length_replicate] at hi
    have hj : j < 64 := by
      have := (List.getElem?_eq_some_iff.1 hv).1
      rw [List.getElem_replicate, bytesV_length, List.length_replicate] at this
      exact this
    have e : v = .int .u8 0 := by
      rw [List.getElem_replicate] at hv
      unfold bytesV at hv
      rw [List.getElem?_map, List.getElem?_replicate, if_pos hj] at hv
      exact (Option.some.inj hv).symm
    rw [e]
    exact hc _ (by omega)
  · rw [List.length_replicate] at hj
    rw [Nat.zero_add]
    exact ⟨by rw [hc j hj]; rfl, h.frozen j⟩
theorem rnew_fin {w : World} {base n x sb lb tb : Nat} {z : Array Value} {e : TypeId} (h1 : 1 ≤ n) (h2 : n ≤ 16384) (hz : z = Array.replicate 64 (.int .u8 0)) (hs : Ob w sb e (madeCells z (n * 64))) (hl : Ob w lb e (madeCells z (n * 64))) (ht : Ob w tb 4 (madeCells (Value.bool false).cells (n * 1)))
    (hx : Ob w x 98 #[.slice (some ⟨sb, 0, none⟩) n n, .slice (some ⟨lb, 0, none⟩) n n, .slice (some ⟨tb, 0, none⟩) n n, .bool false, .int .i64 0, .int .i64 0, .int .i64 0])
    (ne : x ≠ sb ∧ x ≠ lb ∧ x ≠ tb ∧ sb ≠ lb ∧ sb ≠ tb ∧ lb ≠ tb) (lo : base ≤ x ∧ base ≤ sb ∧ base ≤ lb ∧ base ≤ tb) : RvAt w base x sb lb tb (newR n) := by
  refine ⟨?_, SureAt.block hz hs, SureAt.block hz hl, by rw [madeBools] at ht; exact ht, OkR.new n, ne, lo, by simp [newR]; omega⟩
  have : revC (newR n) sb lb tb = #[.slice (some ⟨sb, 0, none⟩) n n, .slice (some ⟨lb, 0, none⟩) n n, .slice (some ⟨tb, 0, none⟩) n n, .bool false, .int .i64 0, .int .i64 0, .int .i64 0] := by
    unfold revC
    simp [newR]
  rw [this]
  exact hx
theorem ob_a (w : World) (c : Array Value) (t : TypeId) (o2 o3 o4 : Obj) : Ob ((((w.alloc (.cells c t)).alloc o2).alloc o3).alloc o4).drew w.heap.size t c := (((Ob.new w t c).alloc o2).alloc o3).alloc o4
theorem ob_b (w : World) (c : Array Value) (t : TypeId) (o1 o3 o4 : Obj) : Ob ((((w.alloc o1).alloc (.cells c t)).alloc o3).alloc o4).drew (w.heap.size + 1) t c := by
  have := ((Ob.new (w.alloc o1) t c).alloc o3).alloc o4
  rwa [World.size_alloc] at this
theorem ob_c (w : World) (c : Array Value) (t : TypeId) (o1 o2 o4 : Obj) : Ob ((((w.alloc o1).alloc o2).alloc (.cells c t)).alloc o4).drew (w.heap.size + 1 + 1) t c := by
  have := (Ob.new ((w.alloc o1).alloc o2) t c).alloc o4
  rwa [World.size_alloc, World.size_alloc] at this
theorem ob_d (w : World) (c : Array Value) (t : TypeId) (o1 o2 o3 : Obj) : Ob ((((w.alloc o1).alloc o2).alloc o3).alloc (.cells c t)).drew (w.heap.size + 1 + 1 + 1) t c := by
  have := Ob.new (((w.alloc o1).alloc o2).alloc o3) t c
  rwa [World.size_alloc, World.size_alloc, World.size_alloc] at this
theorem below4 (w : World) (o1 o2 o3 o4 : Obj) : Below w.heap.size w ((((w.alloc o1).alloc o2).alloc o3).alloc o4).drew := ((((((Below.refl _ w).alloc (Nat.le_refl _) _).alloc (by simp) _).alloc (by simp; omega) _).alloc (by simp; omega) _)).drew
set_option maxRecDepth 100000 in
set_option maxHeartbeats 4000000 in
theorem rnew_calls (n : Nat) (w : World) (h1 : 1 ≤ n) (h2 : n ≤ 16384) :
    Calls Try.prog 25 #[.int .i64 n] w fun e w' => (∃ x sb lb tb, e = .returned (.pointer (some ⟨x, 0, none⟩)) ∧ RvAt w' w.heap.size x sb lb tb (newR n)) ∧ Below w.heap.size w w' := by
  obtain ⟨i0, hi0, hz0⟩ := Option.map_eq_some_iff.1 blk_info
  simp only [Prod.mk.injEq] at hz0
  obtain ⟨hz0, hz1, hz2⟩ := hz0
  obtain ⟨i1, hi1, hy0⟩ := Option.map_eq_some_iff.1 bool_info
  simp only [Prod.mk.injEq] at hy0
  obtain ⟨hy0, hy1, hy2⟩ := hy0
  have hmkS : ∀ W : World, (Instr.makeSlice 78 (.int .i64 (n : Int)) (.int .i64 (n : Int))).run Try.prog W = .ok (.slice (some ⟨W.heap.size, 0, none⟩) n n) (W.alloc (.cells (madeCells (Array.replicate 64 (.int .u8 0)) (n * 64)) 102)) := fun W => by
    have := run_make (P := Try.prog) W 78 102 i0 _ Try.underlying78 hi0 hz0 .i64 .i64 n n (by omega) (Int.le_refl _) (by rw [hz2]; omega) (by omega)
    rw [hz1] at this
    simpa [Value.cells] using this
  have hmkB : ∀ W : World, (Instr.makeSlice 96 (.int .i64 (n : Int)) (.int .i64 (n : Int))).run Try.prog W = .ok (.slice (some ⟨W.heap.size, 0, none⟩) n n) (W.alloc (.cells (madeCells (Value.bool false).cells (n * 1)) 4)) := fun W => by
    have := run_make (P := Try.prog) W 96 4 i1 _ Try.underlying96 hi1 hy0 .i64 .i64 n n (by omega) (Int.le_refl _) (by rw [hy2]; omega) (by omega)
    rw [hy1] at this
    simpa using this
  clear hz0 hz1 hz2 hy0 hy1 hy2 hi0 hi1
  generalize hCS : madeCells (Array.replicate 64 (.int .u8 0)) (n * 64) = CS at *
  generalize hCB : madeCells (Value.bool false).cells (n * 1) = CB at *
  have HCS := Lib.hid hCS
  have HCB := Lib.hid hCB
  clear hCS hCB
  go_enter Try.func25, Try.ntmps25
  go_wp2
  go_region
  all_goals
    go_wp2
    go_ret
    refine ⟨⟨w.heap.size + 1 + 1 + 1, _, _, _, rfl, rnew_fin (z := Array.replicate 64 (.int .u8 0)) (e := 102) h1 h2 rfl ?_ ?_ ?_ (ob_d w _ _ _ _ _) (by omega) (by omega)⟩, below4 w _ _ _ _⟩
    · rw [HCS.out]; first | exact ob_a w _ _ _ _ _ | exact ob_b w _ _ _ _ _ | exact ob_c w _ _ _ _ _
    · rw [HCS.out]; first | exact ob_a w _ _ _ _ _ | exact ob_b w _ _ _ _ _ | exact ob_c w _ _ _ _ _
    · rw [HCB.out]; first | exact ob_a w _ _ _ _ _ | exact ob_b w _ _ _ _ _ | exact ob_c w _ _ _ _ _
end Se
end Go.Proofs.Yteiniahikhiadaa

namespace Go.Proofs.Yteiniahikhiadaa
open Go.RowKit Go.Maps
namespace Se
open Ce

section
variable {D : Dv} {keep : List Int} {torn : Int} {n : Nat}
/-- so many sectors went through a crash by now -/
def HalfC (D : Dv) (keep : List Int) (torn : Int) (n : Nat) (S : List Int) (bs : List Blk) : Prop := bs.length = D.sure.length ∧ (∀ c ∈ bs, c.length = 64) ∧ ∀ i, i < D.sure.length → bs.getD i [] = if (i : Int) ∈ S then crashB D keep torn n i else D.sure.getD i []
theorem HalfC.start (h : OkD D) : HalfC D keep torn n [] D.sure := ⟨rfl, h.sure, fun i _ => by simp⟩
theorem HalfC.step {S : List Int} {bs : List Blk} (h : HalfC D keep torn n S bs) (hok : OkD D) (hn : n ≤ 64) {k : Nat} (hk : k < D.sure.length) : HalfC D keep torn n (S ++ [(k : Int)]) (bs.set k (crashB D keep torn n k)) := by
  obtain ⟨h1, h2, h3⟩ := h
  refine ⟨by rw [List.length_set]; exact h1, fun c hc => ?_, fun i hi => ?_⟩
  · rcases List.mem_or_eq_of_mem_set hc with hc | rfl
    · exact h2 c hc
    · exact crashB_len hok hn hk
  · have h4 := h3 i hi
    rw [List.getD_eq_getElem?_getD] at h4 ⊢
    by_cases e : k = i
    · subst e
      rw [List.getElem?_set_self (by omega)]
      simp
    · rw [List.getElem?_set_ne e, h4]
      have e2 : ¬ (i : Int) = (k : Int) := by omega
      simp [e2]
theorem HalfC.old {S : List Int} {bs : List Blk} (h : HalfC D keep torn n S bs) {k : Nat} (hk : k < D.sure.length) (hS : (k : Int) ∉ S) : bs.getD k [] = D.sure.getD k [] := by
  rw [h.2.2 k hk, if_neg hS]
/-- a sector that stays as it was sure -/
theorem HalfC.stay {S : List Int} {bs : List Blk} (h : HalfC D keep torn n S bs) {k : Nat} (hk : k < D.sure.length) (hS : (k : Int) ∉ S) (hc : crashB D keep torn n k = D.sure.getD k []) : HalfC D keep torn n (S ++ [(k : Int)]) bs := by
  obtain ⟨h1, h2, h3⟩ := h
  refine ⟨h1, h2, fun i hi => ?_⟩
  have h4 := h3 i hi
  by_cases e : i = k
  · subst e
    rw [h4, if_neg hS]
    simp [hc]
  · rw [h4]
    have e2 : ¬ (i : Int) = (k : Int) := by omega
    simp [e2]
theorem HalfC.done {S : List Int} {bs : List Blk} (h : HalfC D keep torn n S bs) (hS : ∀ k : Int, (bGet D.dm k).isSome = true → k ∈ S) : bs = (List.range D.sure.length).map (crashB D keep torn n) := by
  obtain ⟨h1, h2, h3⟩ := h
  refine List.ext_getElem (by simp [h1]) fun i hi hi2 => ?_
  have hi3 : i < D.sure.length := by omega
  have h4 := h3 i hi3
  rw [List.getD_eq_getElem?_getD, List.getElem?_eq_getElem hi, Option.getD_some] at h4
  rw [h4, List.getElem_map, List.getElem_range]
  split
  · rfl
  · rename_i hnn
    unfold crashB
    cases hg : bGet D.dm i with
    | none => rfl
    | some b => exact (hnn (hS i (by rw [hg]; rfl))).elim
end
end Se
end Go.Proofs.Yteiniahikhiadaa

namespace Go.Proofs.Yteiniahikhiadaa
open Go.RowKit
namespace Life

def nameOf (n : Int) : ByteArray :=
  if n = 1 then ⟨#[97, 115, 107, 105, 110, 103]⟩ else if n = 2 then ⟨#[104, 101, 108, 100]⟩ else if n = 3 then ⟨#[119, 97, 105, 116, 105, 110, 103]⟩
  else if n = 4 then ⟨#[117, 110, 100, 111, 105, 110, 103]⟩ else if n = 5 then ⟨#[114, 101, 102, 117, 115, 101, 100]⟩ else if n = 6 then ⟨#[103, 111, 110, 101]⟩
  else if n = 7 then ⟨#[112, 105, 99, 107, 105, 110, 103]⟩ else if n = 8 then ⟨#[112, 105, 99, 107, 101, 100]⟩ else if n = 9 then ⟨#[115, 104, 105, 112, 112, 105, 110, 103]⟩
  else if n = 10 then ⟨#[115, 104, 105, 112, 112, 101, 100]⟩ else ⟨#[]⟩

def behind (n : Int) : List Int :=
  if n = 1 then [1, 2, 3, 4, 5, 6] else if n = 2 then [4, 7] else if n = 3 then [1, 6] else if n = 4 then [3, 4, 5, 6] else if n = 7 then [7, 8] else if n = 8 then [9] else if n = 9 then [9, 10] else []

theorem nameOf_out (n : Int) (h : n < 1 ∨ 10 < n) : nameOf n = ⟨#[]⟩ := by
  unfold nameOf
  repeat (rw [if_neg (by omega)])

theorem ten {n : Int} (h1 : 1 ≤ n) (h2 : n ≤ 10) : n = 1 ∨ n = 2 ∨ n = 3 ∨ n = 4 ∨ n = 5 ∨ n = 6 ∨ n = 7 ∨ n = 8 ∨ n = 9 ∨ n = 10 := by omega

end Life
end Go.Proofs.Yteiniahikhiadaa

namespace Go.Proofs.Yteiniahikhiadaa
open Go.RowKit
namespace Life

/-- the first state of a name from k on, with m to look at -/
def namedFrom (s : ByteArray) : Nat → Nat → Int
  | 0, _ => 0
  | m + 1, k => if (nameOf k).toList == s.toList then k else namedFrom s m (k + 1)
def namedN (s : ByteArray) : Int := namedFrom s 10 1


/-- the place of x in l -/
def idxOf (x : Int) (l : List Int) : Int := match l.findIdx? (x == ·) with | some i => i | none => -1

theorem idxOf_none {x : Int} {l : List Int} (h : ∀ j, j < l.length → (x == l.getD j 0) = false) : idxOf x l = -1 := by
  unfold idxOf
  rw [List.findIdx?_eq_none_iff.2]
  intro y hy
  obtain ⟨i, hi, rfl⟩ := List.getElem_of_mem hy
  have := h i hi
  simpa [hi] using this
theorem idxOf_some {x : Int} {l : List Int} {k : Nat} (hk : k < l.length) (h : ∀ j, j < k → (x == l.getD j 0) = false) (he : (x == l.getD k 0) = true) : idxOf x l = k := by
  unfold idxOf
  have e : l.findIdx? (x == ·) = some k := List.findIdx?_eq_some_iff_getElem.2 ⟨hk, by simpa [hk] using he, fun j hj => by have := h j hj; simpa [show j < l.length by omega] using this⟩
  rw [e]

set_option maxHeartbeats 400000 in
theorem index_calls (l : List Int) (x : Int) (v : Value) (lo B : Nat) (w : World) (hv : IntsAt w lo B v l) :
    Calls Try.prog 90 #[v, .int .i64 x] w fun e w' => e = .returned (.int .i64 (idxOf x l)) ∧ w = w' := by
  obtain ⟨A, c, rfl, hc1, hc2, hc⟩ := hv.form
  unfold maxLen at hc2
  go_enter Try.func90, Try.ntmps90
  go_wp2
  go_loop [5, 8] (fun _ i => ∃ k : Nat, k ≤ l.length ∧ i = .int .i64 k ∧ (∀ j, j < k → (x == l.getD j 0) = false)) (fun _ i => l.length - (intOf i).toNat)
  case atStart => exact ⟨0, by omega, rfl, fun j hj => by omega⟩
  case round =>
    obtain ⟨k, hk, rfl, hN⟩ := hrel
    have HN := Lib.hid hN
    clear hN
    by_cases hlt : k < l.length
    · obtain ⟨b, o, rfl, _, hb, hcell⟩ := hc (by omega)
      have hck := hcell k hlt
      clear hcell hc
      generalize hy : l.getD k 0 = y at hck
      have HY := Lib.hid hy
      clear hy
      go_wp2
      · have ht : (x == y) = true := by assumption
        go_ret
        exact ⟨ret1 (num (idxOf_some hlt HN.out (by rw [HY.out]; exact ht)).symm), rfl⟩
      · have ht : (x == y) = false := by assumption
        go_round
        case rel => exact ⟨k + 1, by omega, by go_num, snoc_all HN.out (by rw [HY.out]; exact ht)⟩
        case measure => simp [intOf]; omega
    · clear hc
      obtain rfl : k = l.length := by omega
      go_wp2
      go_ret
      exact ⟨ret1 (num (idxOf_none HN.out).symm), rfl⟩

def inL (x : Int) (l : List Int) : Bool := decide (0 ≤ idxOf x l)
theorem inL_yes {x : Int} {l : List Int} {k : Nat} (h : idxOf x l = k) : inL x l = true := by unfold inL; rw [h]; exact decide_eq_true (by omega)
theorem inL_no {x : Int} {l : List Int} (h : idxOf x l = -1) : inL x l = false := by unfold inL; rw [h]; rfl
theorem inL_iff (x : Int) (l : List Int) : inL x l = decide (x ∈ l) := by
  unfold inL
  rw [Bool.eq_iff_iff, decide_eq_true_eq, decide_eq_true_eq]
  unfold idxOf
  cases h : l.findIdx? (x == ·) with
  | none =>
    rw [List.findIdx?_eq_none_iff] at h
    constructor
    · intro h0; simp at h0
    · intro hx; have := h x hx; simp at this
  | some i =>
    obtain ⟨hi, h1, _⟩ := List.findIdx?_eq_some_iff_getElem.1 h
    constructor
    · intro _
      have e : x = l[i] := by simpa using h1
      rw [e]; exact List.getElem_mem hi
    · intro _; simp

set_option maxHeartbeats 400000 in
theorem contains_calls (l : List Int) (x : Int) (v : Value) (lo B : Nat) (w : World) (hv : IntsAt w lo B v l) :
    Calls Try.prog 68 #[v, .int .i64 x] w fun e w' => e = .returned (.bool (inL x l)) ∧ w = w' := by
  go_enter Try.func68, Try.ntmps68
  go_wp2_with (go_at_call 90; refine (index_calls l x _ lo B _ hv).mono ?_; rintro e w1 ⟨rfl, rfl⟩)
  go_ret
  exact ⟨rfl, rfl⟩

theorem nine {n : Int} : n = 1 ∨ n = 2 ∨ n = 3 ∨ n = 4 ∨ n = 7 ∨ n = 8 ∨ n = 9 ∨ (n ≠ 1 ∧ n ≠ 2 ∧ n ≠ 3 ∧ n ≠ 4 ∧ n ≠ 7 ∧ n ≠ 8 ∧ n ≠ 9) := by omega
theorem behind_out {n : Int} (h : n ≠ 1 ∧ n ≠ 2 ∧ n ≠ 3 ∧ n ≠ 4 ∧ n ≠ 7 ∧ n ≠ 8 ∧ n ≠ 9) : behind n = [] := by
  obtain ⟨h1, h2, h3, h4, h7, h8, h9⟩ := h
  simp [behind, h1, h2, h3, h4, h7, h8, h9]

def over (n : Int) : Bool := decide (n = 5) || decide (n = 6) || decide (n = 10)
theorem three {n : Int} : n = 5 ∨ n = 6 ∨ n = 10 ∨ (n ≠ 5 ∧ n ≠ 6 ∧ n ≠ 10) := by omega
theorem over_no {n : Int} (h : n ≠ 5 ∧ n ≠ 6 ∧ n ≠ 10) : over n = false := by
  obtain ⟨h1, h2, h3⟩ := h
  simp [over, h1, h2, h3]

def quiet (n : Int) : Bool := over n || decide (n = 2) || decide (n = 3) || decide (n = 8)
theorem quiet_no {n : Int} (h : n ≠ 5 ∧ n ≠ 6 ∧ n ≠ 10 ∧ n ≠ 2 ∧ n ≠ 3 ∧ n ≠ 8) : quiet n = false := by
  obtain ⟨h1, h2, h3, h4, h5, h6⟩ := h
  simp [quiet, over, h1, h2, h3, h4, h5, h6]
theorem six {n : Int} : n = 5 ∨ n = 6 ∨ n = 10 ∨ n = 2 ∨ n = 3 ∨ n = 8 ∨ (n ≠ 5 ∧ n ≠ 6 ∧ n ≠ 10 ∧ n ≠ 2 ∧ n ≠ 3 ∧ n ≠ 8) := by omega
end Life
end Go.Proofs.Yteiniahikhiadaa

namespace Go.Proofs.Yteiniahikhiadaa
open Go.RowKit Go.Maps
namespace Se
open Ce Life

section
variable {w w' : World} {base d sb mb : Nat} {D D' : Dv}
set_option maxRecDepth 100000 in
set_option maxHeartbeats 16000000 in
theorem crash_good (h : DvAt w base d sb mb D) (keep : List Int) (kv : Value) (lo B : Nat) (hK : IntsAt w lo B kv keep) (hF : ∀ i, lo ≤ i → i < B → i < w.heap.size ∧ i ≠ d ∧ i ≠ sb ∧ i ≠ mb) (torn : Int) (n : Nat) (hn : n ≤ 64) :
    Calls Try.prog 31 #[.pointer (some ⟨d, 0, none⟩), kv, .int .i64 torn, .int .i64 n] w fun e w' => e = .returned (.int .i64 0) ∧ DvAt w' base d sb mb (crashD D keep torn n).1 ∧ Dev d sb mb w w' := by
  obtain ⟨x0, x1, -⟩ := Ob.dev h.ob
  have cM := Lib.hid (made_calls d mb w x1)
  have HOKF := Lib.hid (show OkD (crashD D keep torn n).1 from h.ok.crash keep torn n)
  have HFE := Lib.hid (show (crashD D keep torn n).1 = { D with sure := (List.range D.sure.length).map (crashB D keep torn n), dm := [], stops := false } by unfold crashD; rw [if_neg (by omega), Int.toNat_natCast])
  have HD := Lib.hid h
  have HMp := Lib.hid h.map
  have hdl := h.ob.lt
  have hsl := h.sure.lt
  have hml := h.map.lt
  have hne := h.ne
  have HKI := Lib.hid (fun W (hk : Dev d sb mb w W) => (Kept.sl hk hK (fun i h1 h2 => hF i h1 h2) : IntsAt W lo B kv keep))
  have hd1 : decide ((n : Int) < 0) = false := by simp
  have hd2 : decide ((n : Int) > 64) = false := by simp; omega
  obtain ⟨Ak, ck, rfl, -⟩ := hK.form
  clear h hK
  go_enter Try.func31, Try.ntmps31
  go_wp2_with fail
  refine cM.out.mono ?_
  rintro e W ⟨rfl, rfl⟩
  go_wp2_with (at_range; refine wpList_range_g rfl (.tmp 25) 79 rfl 102 keyedI Try.underlying79 rfl HMp.out ?_; intro W1 hR hg1 hs1)
  have hO1 := HD.out.ob.kept hg1 (by simp)
  have hS1 := HD.out.sure.kept (hg1.block sb hsl (by simp)) hg1.size
  have hDv1 : Dev d sb mb w W1 := Kept.of_grown hg1 fun _ hi => ⟨hi.1, by simp⟩
  have HSt := Lib.hid (HalfC.start (keep := keep) (torn := torn) (n := n) HD.out.ok)
  clear hg1 x0 x1
  generalize hr : w.heap.size = r at *
  go_frame
  go_loopw [9] (fun _ wr => ∃ (Sx : List Int) (cnt : Nat) (bs : List Blk), Rng Try.prog 3 wr mb r (bm D.dm) Sx cnt ∧ SureAt wr sb bs ∧ HalfC D keep torn n Sx bs ∧ Ob wr d 86 (devC D sb mb) ∧ Dev d sb mb w wr ∧ W1.heap.size ≤ wr.heap.size) (fun _ wr => wr.rangeLeft mb r)
  case atStart => exact ⟨[], _, _, hR, hS1, HSt.out, hO1, hDv1, Nat.le_refl _⟩
  case round =>
    obtain ⟨Sx, cnt, bs, hR, hSu, hH, hO, hDv, hsz⟩ := hrel
    go_wp2_with (at_next; refine wpList_next_g rfl (.tmp 26) rfl keyedI Try.underlying3 rfl hR ?_ ?_)
    · intro hdone
      have hbs := hH.done (fun k hk => hdone k (by rw [bm_get, Option.isSome_map]; exact hk))
      obtain ⟨W5, hclr, hM5, hg5⟩ := hR.map.clear (tm := 79) Try.underlying79 0
      have hO5 := hO.kept hg5 (fun e => hne.2.1 (Option.some.inj e))
      have hS5 := hSu.kept (hg5.block sb hSu.lt (fun e => hne.2.2 (Option.some.inj e))) hg5.size
      obtain ⟨x0, x1, -⟩ := Ob.dev hO
      obtain ⟨z0, z1, z2, z3, z4, z5⟩ := Ob.dev hO5
      have hz2 := hO5.frozen 2
      have hst := hO5.set 2 (.bool false)
      have hg6 := grownBy_set W5 d 2 (.bool false)
      have hS6 := hS5.kept (hg6.block sb hS5.lt (fun e => hne.1 (Option.some.inj e).symm)) hg6.size
      have hM6 := hM5.kept hg6 (fun e => hne.2.1 (Option.some.inj e).symm)
      have hFF : (crashD D keep torn n).1 = { D with sure := bs, dm := [], stops := false } := by rw [HFE.out, hbs]
      have hbl : bs.length = D.sure.length := hH.1
      have HFIN := Lib.hid (show DvAt (W5.setCell ⟨d, 2, none⟩ (.bool false)) base d sb mb (crashD D keep torn n).1 from by
        have hok := HOKF.out
        rw [hFF] at hok ⊢
        refine ⟨?_, hS6, hM6, hok, hne, HD.out.lo, by dsimp only; rw [hbl]; exact HD.out.len⟩
        have e : devC { D with sure := bs, dm := [], stops := false } sb mb = (devC D sb mb).setIfInBounds 2 (.bool false) := by
          unfold devC
          dsimp only
          rw [hbl]
          rfl
        rw [e]
        exact hst)
      have HDV := Lib.hid (hDv.trans ((Dev.of_map hg5).trans (Dev.of_own hg6)))
      clear hS6 hM6 hst hg6 hS5 hM5 hg5 hO5 hDv hO hH hSu hR hFF hbs hbl
      go_wp2
      go_ret
      exact ⟨rfl, HFIN.out, HDV.out⟩
    · intro k v W2 cnt2 hk hks hR2 hlt hg2 hs2 hen
      rw [bm_get] at hk
      obtain ⟨b, hb, rfl⟩ := Option.map_eq_some_iff.1 hk
      have hkb := HD.out.ok.dm _ (bGet_mem hb)
      dsimp only at hkb
      obtain ⟨kk, rfl⟩ := Int.eq_ofNat_of_zero_le hkb.1
      have hkn : kk < D.sure.length := by omega
      have HL := Lib.hid hkb.2.2
      have hrlt := hR.lt
      obtain ⟨W3, hst, hrg, hth, hbl, hw3⟩ := new_blk W2 b HL.out
      have hO2 := hO.kept hg2 (fun e => by have := Option.some.inj e; omega)
      have hO3 := hO2.same hbl
      have hS3 := (hSu.kept (hg2.block sb hSu.lt (fun e => by have := Option.some.inj e; omega)) hg2.size).kept (hbl.block sb (by have := hSu.lt; omega)) hbl.size
      have hR3 := hR2.kept (only_of_below hbl none) (by simp) (by simp)
      obtain ⟨x0, x1, -⟩ := Ob.dev hO3
      have hbsl : bs.length = D.sure.length := hH.1
      have hxd : W3.drew.cell? ⟨d, 0, none⟩ = some (.slice (some ⟨sb, 0, none⟩) D.sure.length D.sure.length) := x0
      have hrd : W3.drew.rangeAt W2.heap.size 0 (bytesV b) := (World.rangeAt_drew _ _ _ _).2 hrg
      have htd : W3.drew.there sb (kk * 64) 64 := (World.there_drew _ _ _ _).2 (there_part hS3.there (by omega))
      have hsz3 : (bytesV b).toArray.size = 64 := by simp [bytesV_length, HL.out]
      have hln := HD.out.len.2
      have HR3 := Lib.hid hR3
      have HS3 := Lib.hid hS3
      have HO3 := Lib.hid hO3
      have HBS := Lib.hid hH.2.1
      have HH := Lib.hid hH
      have HKS := Lib.hid hks
      have HSTEP := Lib.hid (hH.step HD.out.ok hn hkn)
      have hwn : w.heap.size = r := hr
      have HK := Lib.hid (Kept.trans hDv ((Kept.of_grown hg2 (Fr := fun i => i < w.heap.size ∧ i ≠ d ∧ i ≠ sb ∧ i ≠ mb) fun i hi => ⟨by omega, fun e => by have := Option.some.inj e; omega⟩).trans (Kept.of_below hbl fun i hi => by omega)))
      have hlt2 : cnt2 < wr.rangeLeft mb r := by rw [World.ranges.left_eq hR]; exact hlt
      have hW23 := hbl.size
      have HCB := Lib.hid (show crashB D keep torn n kk = if (kk : Int) ∈ keep then b else if (kk : Int) = torn then b.take n ++ (D.sure.getD kk []).drop n else D.sure.getD kk [] by unfold crashB; rw [hb])
      have cC := contains_calls keep (kk : Int) (.slice Ak keep.length ck) lo B W3 (HKI.out W3 HK.out)
      rw [inL_iff] at cC
      clear hR2 hR3 hS3 hO3 hO2 hrg hth hbl hSu hH hO hDv hg2 hk hks hR
      have hq2 : wr.heap.size ≤ W2.heap.size := by omega
      have HS2 := Lib.hid hs2
      have HWN := Lib.hid hwn
      have HR := Lib.hid hr
      clear hs2 hwn hr
      unfold blkV at hen ⊢
      have CC := Lib.hid cC
      clear cC
      go_wp2_with fail
      refine CC.out.mono ?_
      rintro e W' ⟨rfl, rfl⟩
      by_cases hin : (kk : Int) ∈ keep
      · have hdi : decide ((kk : Int) ∈ keep) = true := by simpa using hin
        rw [hdi]
        go_wp2_with fail
        refine Pu.regionM [(0, false), (1, false), (2, false), (3, false), (4, false), (5, false), (6, false), (7, true)] (fun V => V.cell? ⟨d, 0, none⟩ = some (.slice (some ⟨sb, 0, none⟩) D.sure.length D.sure.length) ∧ V.rangeAt W2.heap.size 0 (bytesV b)) hmx (by kernel_rfl) (by kernel_rfl) (by kernel_rfl) ⟨hxd, hrd⟩ rfl ?_
        simp only [Pu.named, List.filterMap_cons, List.filterMap_nil, List.getElem?_toArray, List.getElem?_cons_succ, List.getElem?_cons_zero, Option.map_some]
        iterate 05 (apply Pu.WalkM.on (by rfl)
                    · rintro V ⟨g0, gr⟩
                      go_wp2_with fail
                      refine ⟨rfl, ?_, rfl⟩
                      try simp only [Act.put, List.setIfInBounds_toArray, List.set_cons_succ, List.set_cons_zero]
                      rfl
                    simp only [Act.put, List.setIfInBounds_toArray, List.set_cons_succ, List.set_cons_zero])
        apply Pu.WalkM.on (by rfl)
        · rintro V ⟨g0, gr⟩
          refine wpList_load_mid rfl 102 (.tmp 10) rfl W2.heap.size 0 rfl (bytesV b) _ gr Try.underlying102 rfl (by rw [bytesV_length, HL.out]; kernel_rfl) ?_
          go_wp2_with fail
          refine ⟨rfl, ?_, rfl⟩
          try simp only [Act.put, List.setIfInBounds_toArray, List.set_cons_succ, List.set_cons_zero]
          rfl
        simp only [Act.put, List.setIfInBounds_toArray, List.set_cons_succ, List.set_cons_zero]
        iterate 01 (apply Pu.WalkM.on (by rfl)
                    · rintro V ⟨g0, gr⟩
                      go_wp2_with fail
                      refine ⟨rfl, ?_, rfl⟩
                      try simp only [Act.put, List.setIfInBounds_toArray, List.set_cons_succ, List.set_cons_zero]
                      rfl
                    simp only [Act.put, List.setIfInBounds_toArray, List.set_cons_succ, List.set_cons_zero])
        refine Pu.WalkM.make (by rfl) ?_
        rintro V rfl
        refine wpList_store_mid rfl 102 (.tmp 42) (.tmp 41) rfl sb (kk * 64) (bytesV b).toArray rfl rfl (by rw [hsz3]; exact htd) (by rw [hsz3]; kernel_rfl) (all_oneCell_toArray (bytesV_one b)) ?_
        have eT : (bytesV b).toArray.toList = bytesV b := by simp
        rw [eT]
        have hg4 := grownBy_cells (b := sb) (bytesV b) W3.drew (kk * 64)
        have hw3d : W3.drew.heap.size = W2.heap.size + 1 := hw3
        have hslt := HS3.out.lt
        have g04 := hg4.cell hxd (fun e => hne.1 (Option.some.inj e))
        have gr4 := range_of_block (hg4.block W2.heap.size (by omega) (fun e => by have := Option.some.inj e; omega)) hrd
        refine ⟨rfl, undef, _, (fun V => V = W3.drew.setCells sb (kk * 64) (bytesV b)), rfl, rfl, (fun V h => by rw [h]; exact ⟨g04, gr4⟩), (.inr (fun _ h => h)), Pu.WalkM.nil ?_⟩
        rintro V' rfl
        simp only [Act.put]
        have hg4' : W3.grownBy (W3.drew.setCells sb (kk * 64) (bytesV b)) (some sb) := ⟨hg4.os, hg4.tape, hg4.output, hg4.size, hg4.block⟩
        have hS4 := (HS3.out.kept (w' := W3.drew) rfl (Nat.le_refl _)).set HBS.out (i := kk) (by omega) HL.out
        have hR4 := HR3.out.kept hg4' (fun e => hne.2.2 (Option.some.inj e).symm) (fun e => by have := Option.some.inj e; omega)
        have hO4 := HO3.out.kept hg4' (fun e => hne.1 (Option.some.inj e))
        have hwn := HWN.out
        have hK4 := Kept.trans HK.out (Kept.of_grown hg4' (Fr := fun i => i < w.heap.size ∧ i ≠ d ∧ i ≠ sb ∧ i ≠ mb) fun i hi => ⟨by omega, fun e => hi.2.2.1 (Option.some.inj e)⟩)
        have hs4 := hg4'.size
        have hst4 := HSTEP.out
        rw [HCB.out, if_pos hin] at hst4
        have HFIN := Lib.hid (show ∃ (Sx : List Int) (cnt : Nat) (bs : List Blk), Rng Try.prog 3 (W3.drew.setCells sb (kk * 64) (bytesV b)) mb r (bm D.dm) Sx cnt ∧ SureAt (W3.drew.setCells sb (kk * 64) (bytesV b)) sb bs ∧ HalfC D keep torn n Sx bs ∧ Ob (W3.drew.setCells sb (kk * 64) (bytesV b)) d 86 (devC D sb mb) ∧ Dev d sb mb w (W3.drew.setCells sb (kk * 64) (bytesV b)) ∧ W1.heap.size ≤ (W3.drew.setCells sb (kk * 64) (bytesV b)).heap.size from ⟨_, _, _, hR4, hS4, hst4, hO4, hK4, by omega⟩)
        have HMS := Lib.hid (show (W3.drew.setCells sb (kk * 64) (bytesV b)).rangeLeft mb r < wr.rangeLeft mb r by rw [World.ranges.left_eq hR4]; exact hlt2)
        clear hS4 hR4 hO4 hK4 hg4 hg4' g04 gr4 hxd hrd htd x0 x1 hst4
        go_wp2
        exact ⟨HFIN.out, HMS.out⟩
      · have hdi : decide ((kk : Int) ∈ keep) = false := by simpa using hin
        rw [hdi]
        by_cases ht : (kk : Int) = torn
        · have hdt : ((kk : Int) == torn) = true := by simpa using ht
          have hcb : crashB D keep torn n kk = b.take n ++ (bs.getD kk []).drop (b.take n).length := by
            rw [HCB.out, if_neg hin, if_pos ht, HH.out.old hkn HKS.out, List.length_take, HL.out, Nat.min_eq_left hn]
          have hlt3 : (b.take n).length = n := by rw [List.length_take, HL.out]; omega
          have hcl : (bytesV (b.take n)).length = n := by rw [bytesV_length]; exact hlt3
          have hcp := fun ty => run_copy_cells (P := Try.prog) W3.drew 34 34 ty 5 sb (kk * 64) n 64 ⟨W2.heap.size, 0, none⟩ n 64 (bytesV (b.take n)) Try.underlying34 (by kernel_rfl) (by rw [hcl]; simp) (fun j v hv => by
              have hj : j < n := by have := (List.getElem?_eq_some_iff.1 hv).1; omega
              have h1 : (bytesV b)[j]? = some v := by
                unfold bytesV at hv ⊢
                rw [List.map_take, List.getElem?_take] at hv
                simpa [hj] using hv
              have := hrd j v h1
              rw [Addr.add_mid]
              exact this) (fun j hj => (htd j (by omega)).1) (fun j hj => (htd j (by omega)).2) (bytesV_one _)
          have hal : Try.prog.arrayLen 102 = 64 := by kernel_rfl
          have hsa : ∀ (g o : Nat) (V : World), (Instr.sliceAt 102 (.pointer (some ⟨g, o, none⟩)) none (some (.int .i64 n)) none).run Try.prog V = .ok (.slice (some ⟨g, o, none⟩) n 64) V := fun g o V => by
            have h1 := run_sliceAt_array_h (P := Try.prog) V 102 ⟨g, o, none⟩ (by kernel_rfl) .i64 (n : Int) (by omega) (by rw [hal]; omega)
            rw [h1, show (sizeOf (Try.prog.elem 102)).run Try.prog V = .ok 1 V by kernel_rfl]
            simp [Result.andThen, slicedAt, hal, Addr.add_mid]
          have HT := Lib.hid ht
          clear ht
          go_wp2_with fail
          refine Pu.regionM [(0, false), (1, false), (2, false), (3, false), (4, false), (5, false), (6, false), (7, false), (8, false), (9, false), (10, true)] (fun V => V.cell? ⟨d, 0, none⟩ = some (.slice (some ⟨sb, 0, none⟩) D.sure.length D.sure.length) ∧ V.rangeAt W2.heap.size 0 (bytesV b)) hmx (by kernel_rfl) (by kernel_rfl) (by kernel_rfl) ⟨hxd, hrd⟩ rfl ?_
          simp only [Pu.named, List.filterMap_cons, List.filterMap_nil, List.getElem?_toArray, List.getElem?_cons_succ, List.getElem?_cons_zero, Option.map_some]
          iterate 10 (apply Pu.WalkM.on (by rfl)
                      · rintro V ⟨g0, gr⟩
                        go_wp2_with fail
                        refine ⟨rfl, ?_, rfl⟩
                        try simp only [Act.put, List.setIfInBounds_toArray, List.set_cons_succ, List.set_cons_zero]
                        rfl
                      simp only [Act.put, List.setIfInBounds_toArray, List.set_cons_succ, List.set_cons_zero])
          refine Pu.WalkM.make (by rfl) ?_
          rintro V rfl
          go_wp2_with fail
          have hg4 := grownBy_cells (b := sb) (bytesV (b.take n)) W3.drew (kk * 64)
          have hw3d : W3.drew.heap.size = W2.heap.size + 1 := hw3
          have hslt := HS3.out.lt
          have g04 := hg4.cell hxd (fun e => hne.1 (Option.some.inj e))
          have gr4 := range_of_block (hg4.block W2.heap.size (by omega) (fun e => by have := Option.some.inj e; omega)) hrd
          refine ⟨rfl, _, _, (fun V => V = W3.drew.setCells sb (kk * 64) (bytesV (b.take n))), rfl, rfl, (fun V h => by rw [h]; exact ⟨g04, gr4⟩), (.inr (fun _ h => h)), Pu.WalkM.nil ?_⟩
          rintro V' rfl
          simp only [Act.put]
          have hg4' : W3.grownBy (W3.drew.setCells sb (kk * 64) (bytesV (b.take n))) (some sb) := ⟨hg4.os, hg4.tape, hg4.output, hg4.size, hg4.block⟩
          have hS4 := (HS3.out.kept (w' := W3.drew) rfl (Nat.le_refl _)).part HBS.out (i := kk) (by omega) (by rw [hlt3]; exact hn)
          have hR4 := HR3.out.kept hg4' (fun e => hne.2.2 (Option.some.inj e).symm) (fun e => by have := Option.some.inj e; omega)
          have hO4 := HO3.out.kept hg4' (fun e => hne.1 (Option.some.inj e))
          have hwn := HWN.out
          have hK4 := Kept.trans HK.out (Kept.of_grown hg4' (Fr := fun i => i < w.heap.size ∧ i ≠ d ∧ i ≠ sb ∧ i ≠ mb) fun i hi => ⟨by omega, fun e => hi.2.2.1 (Option.some.inj e)⟩)
          have hs4 := hg4'.size
          have hst4 := HSTEP.out
          rw [hcb] at hst4
          have HFIN := Lib.hid (show ∃ (Sx : List Int) (cnt : Nat) (bs : List Blk), Rng Try.prog 3 (W3.drew.setCells sb (kk * 64) (bytesV (b.take n))) mb r (bm D.dm) Sx cnt ∧ SureAt (W3.drew.setCells sb (kk * 64) (bytesV (b.take n))) sb bs ∧ HalfC D keep torn n Sx bs ∧ Ob (W3.drew.setCells sb (kk * 64) (bytesV (b.take n))) d 86 (devC D sb mb) ∧ Dev d sb mb w (W3.drew.setCells sb (kk * 64) (bytesV (b.take n))) ∧ W1.heap.size ≤ (W3.drew.setCells sb (kk * 64) (bytesV (b.take n))).heap.size from ⟨_, _, _, hR4, hS4, hst4, hO4, hK4, by omega⟩)
          have HMS := Lib.hid (show (W3.drew.setCells sb (kk * 64) (bytesV (b.take n))).rangeLeft mb r < wr.rangeLeft mb r by rw [World.ranges.left_eq hR4]; exact hlt2)
          clear hS4 hR4 hO4 hK4 hg4 hg4' g04 gr4 hxd hrd htd x0 x1 hst4
          go_wp2
          go_roundw
          case rel => repeat (first | exact ⟨HFIN.out, rfl⟩ | exact ⟨rfl, HFIN.out⟩ | apply Exists.intro)
          case measure => exact HMS.out
        · have hdt : ((kk : Int) == torn) = false := by simpa using ht
          have hst4 := HH.out.stay hkn HKS.out (by rw [HCB.out, if_neg hin, if_neg ht])
          have HFIN := Lib.hid (show ∃ (Sx : List Int) (cnt : Nat) (bs : List Blk), Rng Try.prog 3 W3 mb r (bm D.dm) Sx cnt ∧ SureAt W3 sb bs ∧ HalfC D keep torn n Sx bs ∧ Ob W3 d 86 (devC D sb mb) ∧ Dev d sb mb w W3 ∧ W1.heap.size ≤ W3.heap.size from ⟨_, _, _, HR3.out, HS3.out, hst4, HO3.out, HK.out, by omega⟩)
          have HMS := Lib.hid (show W3.rangeLeft mb r < wr.rangeLeft mb r by rw [World.ranges.left_eq HR3.out]; exact hlt2)
          clear hst4 hxd hrd htd x0 x1
          go_wp2
          exact ⟨HFIN.out, HMS.out⟩
end
end Se
end Go.Proofs.Yteiniahikhiadaa

namespace Go.Proofs.Yteiniahikhiadaa
open Go.RowKit Go.Maps
namespace Se
open Ce Life

section
variable {w w' : World} {base d sb mb : Nat} {D D' : Dv}
set_option maxRecDepth 100000 in
theorem crash_arg (h : DvAt w base d sb mb D) (kv : Value) (torn n : Int) (hn : n < 0 ∨ 64 < n) :
    Calls Try.prog 31 #[.pointer (some ⟨d, 0, none⟩), kv, .int .i64 torn, .int .i64 n] w fun e w' => e = .returned (.int .i64 1) ∧ w = w' := by
  obtain ⟨x0, x1, -⟩ := Ob.dev h.ob
  have cM := Lib.hid (made_calls d mb w x1)
  clear h x0 x1
  go_enter Try.func31, Try.ntmps31
  go_wp2_with fail
  refine cM.out.mono ?_
  rintro e W ⟨rfl, rfl⟩
  rcases Int.lt_or_le n 0 with h1 | h1
  · have hd : decide (n < 0) = true := by simpa using h1
    clear hn
    go_wp2
    go_ret
    exact ⟨rfl, rfl⟩
  · have hd : decide (n < 0) = false := by simpa using h1
    have hd2 : decide (n > 64) = true := by simp; omega
    clear hn
    go_wp2
    go_ret
    exact ⟨rfl, rfl⟩
theorem crash_calls (h : DvAt w base d sb mb D) (keep : List Int) (kv : Value) (lo B : Nat) (hK : IntsAt w lo B kv keep) (hF : ∀ i, lo ≤ i → i < B → i < w.heap.size ∧ i ≠ d ∧ i ≠ sb ∧ i ≠ mb) (torn n : Int) :
    Calls Try.prog 31 #[.pointer (some ⟨d, 0, none⟩), kv, .int .i64 torn, .int .i64 n] w fun e w' => e = .returned (.int .i64 (crashD D keep torn n).2) ∧ DvAt w' base d sb mb (crashD D keep torn n).1 ∧ Dev d sb mb w w' := by
  by_cases hn : n < 0 ∨ 64 < n
  · have e : crashD D keep torn n = (D, 1) := by unfold crashD; rw [if_pos hn]
    rw [e]
    refine (crash_arg h kv torn n hn).mono ?_
    rintro e W ⟨rfl, rfl⟩
    exact ⟨rfl, h, Kept.refl _ _⟩
  · obtain ⟨k, rfl⟩ := Int.eq_ofNat_of_zero_le (show 0 ≤ n by omega)
    have e : (crashD D keep torn k).2 = 0 := by unfold crashD; rw [if_neg hn]
    rw [e]
    exact crash_good h keep kv lo B hK hF torn k (by omega)
end
end Se
end Go.Proofs.Yteiniahikhiadaa

namespace Go.Proofs.Yteiniahikhiadaa
open Go.RowKit Go.Maps
namespace Wa
open Ce Se
/-- both devices -/
structure DevTwo (wr : World) (base d sb mb zb x xs lb tb n : Nat) (D : Dv) (R : Rv) : Prop where
  dv : DvAt wr base d sb mb D
  rv : RvAt wr zb x xs lb tb R
  pr : Pair n D R
  lt : d < zb ∧ sb < zb ∧ mb < zb
  lo : base ≤ zb
/-- both logs, that go along -/
structure Two (wr : World) (base b d sb mb : Nat) (X Y : Nat → Prop) (zb c x xs lb tb n : Nat) (D : Dv) (R : Rv) (L : Lg) : Prop where
  lg : LgAt wr base b d sb mb X Y D L
  rl : RLgAt wr zb c x xs lb tb (fun i => ¬ X i) R L
  pr : Pair n D R
  ap : ∀ i, Y i → Fr5 c x xs lb tb i
  lt : d < zb ∧ sb < zb ∧ mb < zb
  lo : base ≤ zb
section
variable {wr w' : World} {base b d sb mb zb c x xs lb tb n : Nat} {D D' : Dv} {R R' : Rv} {L L' : Lg} {X Y X' Y' : Nat → Prop}
theorem Pair.sz (h : Pair n D R) : szR R = szD D := by unfold szR szD; rw [h.2.1.sure]
theorem Two.dev (h : Two wr base b d sb mb X Y zb c x xs lb tb n D R L) : DevTwo wr base d sb mb zb x xs lb tb n D R := ⟨h.lg.dv, h.rl.dv, h.pr, h.lt, h.lo⟩
theorem Two.same (h : Two wr base b d sb mb X Y zb c x xs lb tb n D R L) (hb : Below wr.heap.size wr w') : Two w' base b d sb mb X Y zb c x xs lb tb n D R L := ⟨h.lg.same hb, h.rl.same hb, h.pr, h.ap, h.lt, h.lo⟩
theorem Two.szx (h : Two wr base b d sb mb X Y zb c x xs lb tb n D R L) : (∀ i, X i → i < wr.heap.size) ∧ (∀ i, Y i → base ≤ i) := ⟨fun i hi => (h.lg.y i (h.lg.xy i hi)).2, fun i hi => (h.lg.y i hi).1⟩
/-- the document's log behind a call of the program's -/
theorem rlg_grew (h : RLgAt wr zb c x xs lb tb (fun i => ¬ X i) R L) (g : Grew wr w' X Y X' Y') (ap : ∀ i, X i → Fr5 c x xs lb tb i) : RLgAt w' zb c x xs lb tb (fun i => ¬ X' i) R L := by
  obtain ⟨h1, h2, ⟨lv, h3, h4⟩, h5, h6, h7⟩ := h
  have hk := g.kp
  have nc : ¬ X c := fun hx => (ap c hx).1 rfl
  have nx : ¬ X x := fun hx => (ap x hx).2.1 rfl
  have ns : ¬ X xs := fun hx => (ap xs hx).2.2.1 rfl
  have nl : ¬ X lb := fun hx => (ap lb hx).2.2.2.1 rfl
  have nt : ¬ X tb := fun hx => (ap tb hx).2.2.2.2 rfl
  refine ⟨h1.kept hk ⟨h1.ob.lt, nx⟩ ⟨h1.sure.lt, ns⟩ ⟨h1.last.lt, nl⟩ ⟨h1.dirty.lt, nt⟩, h2, ⟨lv, hk.ob h3 ⟨h3.lt, nc⟩, ?_⟩, h5, h6, h7⟩
  exact (h4.lt.kept (hk.mono fun i hi => ⟨hi.2, hi.1.2⟩)).mono fun i hi => ⟨hi.1.1, fun hx => by
    rcases g.x i hx with k | k
    · exact hi.1.2 k
    · omega⟩
/-- behind a call of the program's log, ahead of the document's -/
structure Mid (wr : World) (base b d sb mb : Nat) (X Y : Nat → Prop) (zb c x xs lb tb : Nat) (D' : Dv) (R : Rv) (L' L : Lg) : Prop where
  lg : LgAt wr base b d sb mb X Y D' L'
  rl : RLgAt wr zb c x xs lb tb (fun i => ¬ X i) R L
  ap : ∀ i, Y i → Fr5 c x xs lb tb i
  lt : d < zb ∧ sb < zb ∧ mb < zb
  lo : base ≤ zb
theorem Two.mid (h : Two wr base b d sb mb X Y zb c x xs lb tb n D R L) (hl : LgAt w' base b d sb mb X' Y' D' L') (g : Grew wr w' X Y X' Y') : Mid w' base b d sb mb X' Y' zb c x xs lb tb D' R L' L := by
  refine ⟨hl, rlg_grew h.rl g fun i hi => h.ap i (h.lg.xy i hi), fun i hi => ?_, h.lt, h.lo⟩
  rcases g.y i hi with k | k
  · exact h.ap i k
  · have := h.rl.dv.ob.lt
    have := h.rl.dv.sure.lt
    have := h.rl.dv.last.lt
    have := h.rl.dv.dirty.lt
    obtain ⟨lv, h3, -⟩ := h.rl.lg
    have := h3.lt
    exact ⟨by omega, by omega, by omega, by omega, by omega⟩
theorem Mid.same (h : Mid wr base b d sb mb X Y zb c x xs lb tb D' R L' L) (hb : Below wr.heap.size wr w') : Mid w' base b d sb mb X Y zb c x xs lb tb D' R L' L := ⟨h.lg.same hb, h.rl.same hb, h.ap, h.lt, h.lo⟩
theorem Mid.new (h : Mid wr base b d sb mb X Y zb c x xs lb tb D' R L' L) : ∀ i, wr.heap.size ≤ i → ¬ X i := fun i hi hx => by have := (h.lg.y i (h.lg.xy i hx)).2; omega
theorem Mid.two (h : Mid wr base b d sb mb X Y zb c x xs lb tb D' R L' L) (hr : RLgAt w' zb c x xs lb tb (fun i => ¬ X i) R' L') (hv : RLev c x xs lb tb wr w') (hp : Pair n D' R') : Two w' base b d sb mb X Y zb c x xs lb tb n D' R' L' :=
  ⟨h.lg.kept (Kept.mono hv fun i hi => ⟨(h.lg.y i hi).2, h.ap i hi⟩), hr, hp, h.ap, h.lt, h.lo⟩
theorem Grew.belowB (g : Grew wr w' X Y X' Y') (hB : base ≤ wr.heap.size) (hx : ∀ i, X i → base ≤ i) : Below base wr w' := Grew.below g hB hx
theorem RLev.belowB (h : RLev c x xs lb tb wr w') (hB : base ≤ wr.heap.size) (hd : zb ≤ c ∧ zb ≤ x ∧ zb ≤ xs ∧ zb ≤ lb ∧ zb ≤ tb) (hz : base ≤ zb) : Below base wr w' := RLev.below h hB ⟨by omega, by omega, by omega, by omega, by omega⟩
theorem Mid.doc (h : Mid wr base b d sb mb X Y zb c x xs lb tb D' R L' L) : zb ≤ c ∧ zb ≤ x ∧ zb ≤ xs ∧ zb ≤ lb ∧ zb ≤ tb := ⟨h.rl.lo, h.rl.dv.lo.1, h.rl.dv.lo.2.1, h.rl.dv.lo.2.2.1, h.rl.dv.lo.2.2.2⟩
theorem DevTwo.same (h : DevTwo wr base d sb mb zb x xs lb tb n D R) (hb : Below wr.heap.size wr w') : DevTwo w' base d sb mb zb x xs lb tb n D R := ⟨h.dv.same hb, h.rv.same hb, h.pr, h.lt, h.lo⟩
theorem rv_dev (h : RvAt wr zb x xs lb tb R) (hv : Dev d sb mb wr w') (hz : d < zb ∧ sb < zb ∧ mb < zb) : RvAt w' zb x xs lb tb R := by
  have hl := h.lo
  exact h.kept hv ⟨h.ob.lt, by omega, by omega, by omega⟩ ⟨h.sure.lt, by omega, by omega, by omega⟩ ⟨h.last.lt, by omega, by omega, by omega⟩ ⟨h.dirty.lt, by omega, by omega, by omega⟩
theorem dv_rev (h : DvAt wr base d sb mb D) (hv : Rev x xs lb tb wr w') (hz : d < zb ∧ sb < zb ∧ mb < zb) (hl : zb ≤ x ∧ zb ≤ xs ∧ zb ≤ lb ∧ zb ≤ tb) : DvAt w' base d sb mb D := by
  exact h.kept hv ⟨h.ob.lt, by omega, by omega, by omega, by omega⟩ ⟨h.sure.lt, by omega, by omega, by omega, by omega⟩ ⟨h.map.lt, by omega, by omega, by omega, by omega⟩
end
/-- openers agree -/
theorem open_agree {n : Nat} {D : Dv} {R : Rv} (h : Pair n D R) : (openR R).2 = (openD D).2 ∧ Pair n (openD D).1 (openR R).1 := by
  have h1 := (pair_sim n).put_open (last := lastD) (last' := lastR) (off := offD) (off' := offR) (len := D.sure.length) h h.2.1.off (fun i hi => by
    have := h.last (i := i) (by have := h.2.2; omega)
    exact this)
  have e : R.sure.length = D.sure.length := by rw [h.2.1.sure]
  unfold openR openD
  rw [e]
  exact h1
theorem two_open {W3 W4 W5 : World} {base b d sb mb zb c x xs lb tb n : Nat} {X Y : Nat → Prop} {D : Dv} {R : Rv} {L : Lg} (h : DevTwo W3 base d sb mb zb x xs lb tb n D R) (hs : W3.heap.size ≤ W4.heap.size)
    (hl : LgAt W4 base b d sb mb X Y (openD D).1 L) (hy : ∀ i, Y i → i = d ∨ i = sb ∨ i = mb ∨ W3.heap.size ≤ i) (hr : RLgAt W5 zb c x xs lb tb (fun i => ¬ X i) (openR R).1 L) (hv : Rev x xs lb tb W4 W5) (hc : W4.heap.size ≤ c) : Two W5 base b d sb mb X Y zb c x xs lb tb n (openD D).1 (openR R).1 L := by
  have h1 := h.rv.ob.lt
  have h2 := h.rv.sure.lt
  have h3 := h.rv.last.lt
  have h4 := h.rv.dirty.lt
  have hlo := h.rv.lo
  have hlt := h.lt
  have key : ∀ i, Y i → i < W4.heap.size ∧ i ≠ x ∧ i ≠ xs ∧ i ≠ lb ∧ i ≠ tb := fun i hi => by
    have := (hl.y i hi).2
    rcases hy i hi with k | k | k | k <;> exact ⟨this, by omega, by omega, by omega, by omega⟩
  refine ⟨hl.kept (Kept.mono hv key), hr, (open_agree h.pr).2, fun i hi => ?_, h.lt, h.lo⟩
  have := key i hi
  exact ⟨by omega, this.2⟩
theorem len_crashW (D : Dv) (keep : List Int) (t n : Int) : (crashD D keep t n).1.sure.length = D.sure.length := by
  unfold crashD
  split
  · rfl
  · simp
end Wa
end Go.Proofs.Yteiniahikhiadaa

namespace Go.Proofs.Yteiniahikhiadaa
open Go.RowKit
theorem grownBy_segs {b : Nat} : ∀ (vs : List Value) (w : World) (o : Nat), w.grownBy (w.setCells b o vs) (some b)
  | [], w, _ => ⟨rfl, rfl, rfl, Nat.le_refl _, fun _ _ _ => rfl⟩
  | v :: r, w, o => by
    rw [World.setCells]
    exact (grownBy_set w b o v).andThen (grownBy_segs r _ (o + 1)) (fun j e => .inr e)
def putSeg (cs : Array Value) (o : Nat) : List Value → Array Value
  | [] => cs
  | v :: r => putSeg (cs.setIfInBounds o v) (o + 1) r
theorem putSeg_eq : ∀ (vs : List Value) (cs : Array Value) (o : Nat), o + vs.length ≤ cs.size → putSeg cs o vs = (cs.toList.take o ++ vs ++ cs.toList.drop (o + vs.length)).toArray
  | [], cs, o, _ => by simp [putSeg]
  | v :: r, cs, o, h => by
    simp only [List.length_cons] at h
    rw [putSeg, putSeg_eq r _ (o + 1) (by simp; omega)]
    congr 1
    rw [Array.toList_setIfInBounds]
    apply List.ext_getElem?
    intro i
    have hl : (cs.toList.take o).length = o := by rw [List.length_take]; simp; omega
    have hl2 : ((cs.toList.set o v).take (o + 1)).length = o + 1 := by rw [List.length_take, List.length_set]; simp; omega
    rcases Nat.lt_trichotomy i o with h1 | h1 | h1
    · rw [List.getElem?_append_left (by simp [hl2]; omega), List.getElem?_append_left (by omega), List.getElem?_append_left (by simp [hl]; omega), List.getElem?_append_left (by omega)]
      rw [List.getElem?_take, if_pos (by omega), List.getElem?_take, if_pos h1, List.getElem?_set_ne (by omega)]
    · subst h1
      rw [List.getElem?_append_left (by simp [hl2]; omega), List.getElem?_append_left (by omega), List.getElem?_append_left (by simp [hl]), List.getElem?_append_right (by omega)]
      rw [List.getElem?_take, if_pos (by omega), List.getElem?_set_self (by simp; omega), hl]
      simp
    · by_cases h2 : i < o + 1 + r.length
      · rw [List.getElem?_append_left (by simp [hl2]; omega), List.getElem?_append_right (by omega), hl2, List.getElem?_append_left (by simp [hl]; omega), List.getElem?_append_right (by omega), hl]
        rw [show i - o = (i - (o + 1)) + 1 by omega, List.getElem?_cons_succ]
      · rw [List.getElem?_append_right (by simp [hl2]; omega), List.getElem?_append_right (by simp [hl]; omega)]
        simp only [List.length_append, hl2, hl, List.length_cons, List.getElem?_drop]
        rw [List.getElem?_set_ne (by omega)]
        congr 1
        omega
theorem Ob.seg {g : Nat} {t : TypeId} : ∀ (vs : List Value) {w : World} {cs : Array Value} (o : Nat), Ob w g t cs → Ob (w.setCells g o vs) g t (putSeg cs o vs)
  | [], _, _, _, h => h
  | v :: r, w, cs, o, h => by
    rw [World.setCells, putSeg]
    exact Ob.seg r (o + 1) (h.set o v)
theorem Ob.all {w : World} {g : Nat} {t : TypeId} {cs : Array Value} (h : Ob w g t cs) (vs : List Value) (hl : vs.length = cs.size) : Ob (w.setCells g 0 vs) g t vs.toArray := by
  have := Ob.seg vs 0 h
  rw [putSeg_eq vs cs 0 (by omega)] at this
  have e : cs.toList.take 0 ++ vs ++ cs.toList.drop (0 + vs.length) = vs := by
    rw [Nat.zero_add, hl, List.take_zero, List.nil_append, List.drop_of_length_le (by simp), List.append_nil]
  rw [e] at this
  exact this
theorem Ob.there {w : World} {g : Nat} {t : TypeId} {cs : Array Value} (h : Ob w g t cs) {o n : Nat} (hn : o + n ≤ cs.size) : w.there g o n := fun j hj => by
  refine ⟨?_, h.frozen _⟩
  rw [h.cell (j := o + j) (v := cs[o + j]'(by omega)) (by rw [Array.getElem?_eq_getElem (by omega)])]
  rfl
theorem Ob.range {w : World} {g : Nat} {t : TypeId} {cs : Array Value} (h : Ob w g t cs) {o : Nat} {vs : List Value} (hv : ∀ j v, vs[j]? = some v → cs[o + j]? = some v) : w.rangeAt g o vs := fun j v hj => h.cell (hv j v hj)
theorem Ob.store {P : Program} {w : World} {g : Nat} {t : TypeId} {cs : Array Value} (h : Ob w g t cs) (o : Nat) (vs : List Value) (hn : o + vs.length ≤ cs.size) (h1 : ∀ v ∈ vs, v.oneCell' = true) : (storeCells ⟨g, o, none⟩ vs).run P w = .ok () (w.setCells g o vs) := by
  have ht := h.there hn
  have := run_storeCells_cells (P := P) g o vs 0 w (fun j hj => by simpa using (ht j hj).1) (fun j hj => by simpa using (ht j hj).2) h1
  simpa using this
end Go.Proofs.Yteiniahikhiadaa
