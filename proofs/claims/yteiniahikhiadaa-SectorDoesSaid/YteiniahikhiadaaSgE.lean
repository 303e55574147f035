/-
  sector: the document's device: Crash.
-/
import Derived.Test.YteiniahikhiadaaSgD
namespace Go.Proofs.Yteiniahikhiadaa
open Go.RowKit Go.Maps
namespace Se
open Ce
section
variable {w w' : World} {base x sb lb tb : Nat} {R R' : Rv}
def crS (R : Rv) (keep : List Int) (torn : Int) (n : Nat) : Nat → Rv
  | 0 => R
  | k + 1 => { crS R keep torn n k with sure := (crS R keep torn n k).sure.set k (crashRB R keep torn n k), last := (crS R keep torn n k).last.set k (crashRB R keep torn n k), dirty := (crS R keep torn n k).dirty.set k false }
theorem crS_same (R : Rv) (keep : List Int) (torn : Int) (n : Nat) : ∀ k, (crS R keep torn n k).stops = R.stops ∧ (crS R keep torn n k).left = R.left ∧ (crS R keep torn n k).wr = R.wr ∧ (crS R keep torn n k).fl = R.fl ∧ (crS R keep torn n k).sure.length = R.sure.length ∧ (crS R keep torn n k).last.length = R.last.length ∧ (crS R keep torn n k).dirty.length = R.dirty.length
  | 0 => ⟨rfl, rfl, rfl, rfl, rfl, rfl, rfl⟩
  | k + 1 => by
    obtain ⟨h1, h2, h3, h4, h5, h6, h7⟩ := crS_same R keep torn n k
    exact ⟨h1, h2, h3, h4, by simp [crS, h5], by simp [crS, h6], by simp [crS, h7]⟩
theorem set_at {α : Type} {l l0 : List α} {k j : Nat} {x : Nat → α} (hl : l.length = l0.length) (ih : l[j]? = (if j < k ∧ j < l0.length then some (x j) else l0[j]?)) : (l.set k (x k))[j]? = if j < k + 1 ∧ j < l0.length then some (x j) else l0[j]? := by
  rw [List.getElem?_set, ih, hl]
  by_cases e : k = j
  · subst e
    by_cases h : k < l0.length
    · simp [h]
    · simp [h]
  · rw [if_neg e]
    by_cases h : j < k
    · simp [h, show j < k + 1 by omega]
    · simp [h, show ¬ j < k + 1 by omega]
theorem crS_at (R : Rv) (keep : List Int) (torn : Int) (n k j : Nat) : (crS R keep torn n k).sure[j]? = (if j < k ∧ j < R.sure.length then some (crashRB R keep torn n j) else R.sure[j]?) ∧ (crS R keep torn n k).last[j]? = (if j < k ∧ j < R.last.length then some (crashRB R keep torn n j) else R.last[j]?) ∧ (crS R keep torn n k).dirty[j]? = (if j < k ∧ j < R.dirty.length then some false else R.dirty[j]?) := by
  induction k with
  | zero => simp [crS]
  | succ k ih =>
    obtain ⟨-, -, -, -, h5, h6, h7⟩ := crS_same R keep torn n k
    exact ⟨set_at (x := crashRB R keep torn n) h5 ih.1, set_at (x := crashRB R keep torn n) h6 ih.2.1, set_at (x := fun _ => false) h7 ih.2.2⟩
theorem all_at {α : Type} {l l0 : List α} {m : Nat} {x : Nat → α} (hm : l0.length = m) (h : ∀ j, l[j]? = if j < m ∧ j < l0.length then some (x j) else l0[j]?) : l = (List.range m).map x := by
  apply List.ext_getElem?
  intro j
  rw [h j, List.getElem?_map]
  by_cases hj : j < m
  · rw [if_pos ⟨hj, by omega⟩, List.getElem?_range hj]
    rfl
  · rw [if_neg (fun h => hj h.1), List.getElem?_eq_none (by omega), List.getElem?_eq_none (by simp; omega)]
    rfl
theorem crS_all {R : Rv} (hok : OkR R) (keep : List Int) (torn : Int) (n : Nat) : crS R keep torn n R.sure.length = { R with sure := (List.range R.sure.length).map (crashRB R keep torn n), last := (List.range R.sure.length).map (crashRB R keep torn n), dirty := List.replicate R.sure.length false } := by
  obtain ⟨h1, h2, h3, h4, -, -, -⟩ := crS_same R keep torn n R.sure.length
  have e1 := all_at (x := crashRB R keep torn n) rfl (fun j => (crS_at R keep torn n R.sure.length j).1)
  have e2 := all_at (x := crashRB R keep torn n) hok.ll (fun j => (crS_at R keep torn n R.sure.length j).2.1)
  have e3 := all_at (x := fun _ => false) hok.dl (fun j => (crS_at R keep torn n R.sure.length j).2.2)
  rw [← rep_map] at e3
  generalize crS R keep torn n R.sure.length = Q at *
  obtain ⟨q1, q2, q3, q4, q5, q6, q7⟩ := Q
  dsimp only at h1 h2 h3 h4 e1 e2 e3
  subst h1 h2 h3 h4 e1 e2 e3
  rfl
theorem getD_of {α : Type} {l l0 : List α} {k : Nat} {z : α} (h : l[k]? = l0[k]?) : l.getD k z = l0.getD k z := by rw [List.getD_eq_getElem?_getD, List.getD_eq_getElem?_getD, h]
theorem crS_now (R : Rv) (keep : List Int) (torn : Int) (n k : Nat) : (crS R keep torn n k).sure.getD k [] = R.sure.getD k [] ∧ (crS R keep torn n k).last.getD k [] = R.last.getD k [] ∧ (crS R keep torn n k).dirty.getD k false = R.dirty.getD k false := by
  obtain ⟨h1, h2, h3⟩ := crS_at R keep torn n k k
  simp only [Nat.lt_irrefl, false_and, if_false] at h1 h2 h3
  exact ⟨getD_of h1, getD_of h2, getD_of h3⟩
def anyK (keep : List Int) (i : Int) (j : Nat) : Bool := (keep.take j).any fun x => x == i
theorem anyK_zero (keep : List Int) (i : Int) : anyK keep i 0 = false := by simp [anyK]
theorem anyK_step {keep : List Int} {i : Int} {j : Nat} (hj : j < keep.length) : anyK keep i (j + 1) = (anyK keep i j || (keep.getD j 0 == i)) := by
  unfold anyK
  rw [List.take_succ_eq_append_getElem hj, List.any_append, List.getD_eq_getElem?_getD, List.getElem?_eq_getElem hj]
  simp
theorem anyK_all (keep : List Int) (i : Int) : anyK keep i keep.length = decide (i ∈ keep) := by
  unfold anyK
  rw [List.take_length, Bool.eq_iff_iff]
  simp
set_option maxRecDepth 100000 in
theorem rcrash_arg (kv : Value) (torn n : Int) (hn : n < 0 ∨ 64 < n) (w : World) (x : Nat) :
    Calls Try.prog 32 #[.pointer (some ⟨x, 0, none⟩), kv, .int .i64 torn, .int .i64 n] w fun e w' => e = .returned (.int .i64 1) ∧ w = w' := by
  rcases Int.lt_or_le n 0 with h1 | h1
  · have hd : decide (n < 0) = true := by simpa using h1
    clear hn
    go_enter Try.func32, Try.ntmps32
    go_wp2
    go_ret
    exact ⟨rfl, rfl⟩
  · have hd : decide (n < 0) = false := by simpa using h1
    have hd2 : decide (n > 64) = true := by simp; omega
    clear hn
    go_enter Try.func32, Try.ntmps32
    go_wp2
    go_ret
    exact ⟨rfl, rfl⟩
set_option maxRecDepth 100000 in
set_option maxHeartbeats 16000000 in
theorem rcrash_good (h : RvAt w base x sb lb tb R) (keep : List Int) (kv : Value) (lo B : Nat) (hK : IntsAt w lo B kv keep) (hF : ∀ i, lo ≤ i → i < B → i < w.heap.size ∧ i ≠ x ∧ i ≠ sb ∧ i ≠ lb ∧ i ≠ tb) (torn : Int) (n : Nat) (hn : n ≤ 64) :
    Calls Try.prog 32 #[.pointer (some ⟨x, 0, none⟩), kv, .int .i64 torn, .int .i64 n] w fun e w' => e = .returned (.int .i64 0) ∧ RvAt w' base x sb lb tb { R with sure := (List.range R.sure.length).map (crashRB R keep torn n), last := (List.range R.sure.length).map (crashRB R keep torn n), dirty := List.replicate R.sure.length false, stops := false } ∧ Rev x sb lb tb w w' := by
  have H := Lib.hid h
  have HOK := Lib.hid h.ok
  have HK := Lib.hid hK
  have hlen := h.len.2
  obtain ⟨Ak, ck, rfl, hk1, hk2, -⟩ := hK.form
  unfold maxLen at hk2
  obtain ⟨m, hm⟩ : ∃ m, m = R.sure.length := ⟨_, rfl⟩
  have HM := Lib.hid hm
  rw [← hm] at hlen
  clear h hK hm
  have hd1 : decide ((n : Int) < 0) = false := by simp; try omega
  have hd2 : decide ((n : Int) > 64) = false := by simp; omega
  go_enter Try.func32, Try.ntmps32
  go_wp2_with fail
  go_loopw [9] (fun q wr => ∃ k : Nat, k ≤ m ∧ q = .int .i64 k ∧ RvAt wr base x sb lb tb (crS R keep torn n k) ∧ Rev x sb lb tb w wr) (fun q _ => m - (intOf q).toNat)
  case atStart => exact ⟨0, by omega, rfl, H.out, Rev.refl _⟩
  case round =>
    obtain ⟨k, hk, rfl, hW, hV⟩ := hrel
    clear H hd1 hd2
    obtain ⟨wo, hwo⟩ : ∃ wo : World, wo = wr := ⟨_, rfl⟩
    rw [← hwo] at hW hV ⊢
    clear hwo
    obtain ⟨-, -, -, -, hs5, hs6, hs7⟩ := crS_same R keep torn n k
    obtain ⟨hn1, hn2, hn3⟩ := crS_now R keep torn n k
    have hsl : (crS R keep torn n k).sure.length = m := hs5.trans HM.out.symm
    have HSAME := Lib.hid (crS_same R keep torn n k)
    have HN := Lib.hid (And.intro hn1 (And.intro hn2 hn3))
    have HNEXT := Lib.hid (show crS R keep torn n (k + 1) = { crS R keep torn n k with sure := (crS R keep torn n k).sure.set k (crashRB R keep torn n k), last := (crS R keep torn n k).last.set k (crashRB R keep torn n k), dirty := (crS R keep torn n k).dirty.set k false } from rfl)
    have HALL := Lib.hid (fun (e : k = m) => show crS R keep torn n k = { R with sure := (List.range R.sure.length).map (crashRB R keep torn n), last := (List.range R.sure.length).map (crashRB R keep torn n), dirty := List.replicate R.sure.length false } from by rw [e, HM.out]; exact crS_all HOK.out keep torn n)
    generalize hSS : crS R keep torn n k = S at *
    have HS := Lib.hid hSS
    have hO := hW.ob
    unfold revC at hO
    rw [hsl] at hO
    have HSL := Lib.hid hsl
    clear hs5 hs6 hs7 hn1 hn2 hn3 hSS hsl
    have yy0 := hO.cell (j := 0) (v := .slice (some ⟨sb, 0, none⟩) m m) rfl
    by_cases hlt : k < m
    · have hd : decide ((k : Int) < (m : Int)) = true := by simp; omega
      have hd' : decide (k < m) = true := by simpa using hlt
      have hKr : IntsAt wo lo B (.slice Ak keep.length ck) keep := Kept.sl hV HK.out fun i a b => hF i a b
      have HW := Lib.hid hW
      have HV := Lib.hid hV
      have HO := Lib.hid hO
      have HKR := Lib.hid (IntsAt.form hKr)
      have yy2 := hO.cell (j := 2) (v := .slice (some ⟨tb, 0, none⟩) m m) rfl
      have hdl : k < S.dirty.length := by rw [hW.ok.dl, HSL.out]; exact hlt
      have hdc := hW.dirty.cell (boolC_get hdl)
      rw [HN.out.2.2] at hdc
      have HC64 := Lib.hid (crashRB_len HOK.out keep torn hn (i := k) (by rw [← HM.out]; exact hlt))
      clear hW hV hO hKr hdl
      go_wp2_with fail
      go_loop [10, 11] (fun a q => ∃ j : Nat, j ≤ keep.length ∧ q = .int .i64 j ∧ a = .bool (anyK keep k j)) (fun _ q => keep.length - (intOf q).toNat)
      case atStart => exact ⟨0, by omega, rfl, by rw [anyK_zero]⟩
      case round =>
        obtain ⟨j, hj, rfl, rfl⟩ := hrel
        by_cases hlj : j < keep.length
        · have hdj : decide ((j : Int) < (keep.length : Int)) = true := by simp; omega
          obtain ⟨A', c', e', -, -, hcc⟩ := HKR.out
          cases e'
          obtain ⟨kb, ko, rfl, -, -, hck⟩ := hcc (by omega)
          have hcj := hck j hlj
          have HST := Lib.hid (anyK_step (i := (k : Int)) hlj)
          clear hck hcc
          generalize keep.getD j 0 = kj at *
          cases ha : anyK keep k j with
          | true =>
            rw [ha] at HST
            go_wp2
            go_round
            case rel => exact ⟨j + 1, by omega, by go_num, by rw [HST.out]; rfl⟩
            case measure => simp [intOf]; omega
          | false =>
            rw [ha] at HST
            go_wp2
            go_round
            case rel => exact ⟨j + 1, by omega, by go_num, by rw [HST.out]; rfl⟩
            case measure => simp [intOf]; omega
        · obtain rfl : j = keep.length := by omega
          have hdj : decide ((keep.length : Int) < (keep.length : Int)) = false := by simp
          rw [anyK_all]
          clear hlj
          cases hdk : R.dirty.getD k false with
          | false =>
            rw [hdk] at hdc
            have HCE := Lib.hid (show crashRB R keep torn n k = S.sure.getD k [] by rw [HN.out.1]; unfold crashRB; rw [hdk]; rfl)
            have HT := Lib.hid (show RvAt wo base x sb lb tb { S with sure := S.sure.set k (crashRB R keep torn n k) } by rw [HCE.out, set_getD]; exact HW.out)
            have HVZ := HV
            obtain ⟨WZ, hWZ⟩ : ∃ X : World, X = wo := ⟨_, rfl⟩
            rw [← hWZ] at HT HVZ yy0 yy2 hdc ⊢
            clear hWZ HCE yy0
            have hrs : WZ.rangeAt sb (k * 64) (bytesV (crashRB R keep torn n k)) := by
              have h1 := HT.out.sure.at_ k (by rw [List.length_set, HSL.out]; exact hlt)
              rw [List.getElem_set_self] at h1
              exact h1
            have hOz := HT.out.ob
            simp only [revC, List.length_set, HSL.out] at hOz
            have hb := (Below.refl WZ.heap.size WZ).drew
            have HTD := Lib.hid (HT.out.same hb)
            have HT1 := Lib.hid (HTD.out.setLast (i := k) (b := crashRB R keep torn n k) (by rw [List.length_set, HSL.out]; exact hlt) HC64.out)
            have hdl2 : k < S.dirty.length := by have := HT.out.ok.dl; rw [List.length_set, HSL.out] at this; show k < S.dirty.length; rw [this]; exact hlt
            have hc2 := HT1.out.dirty.cell (boolC_get hdl2)
            have hf2 := HT1.out.dirty.frozen k
            have HT2 := Lib.hid (show RvAt _ base x sb lb tb (crS R keep torn n (k + 1)) from by rw [HNEXT.out]; exact HT1.out.setDirty k false)
            have hgc := grownBy_cells (b := lb) (bytesV (crashRB R keep torn n k)) WZ.drew (k * 64)
            have HVS := Lib.hid ((HVZ.out.trans Rev.drew).trans ((Rev.of (x := x) (sb := sb) (lb := lb) (tb := tb) hgc (.inr (.inr (.inl rfl)))).trans (Rev.of (x := x) (sb := sb) (lb := lb) (tb := tb) (grownBy_set _ tb k (.bool false)) (.inr (.inr (.inr rfl))))))
            have hOd : Ob WZ.drew x 98 #[.slice (some ⟨sb, 0, none⟩) m m, .slice (some ⟨lb, 0, none⟩) m m, .slice (some ⟨tb, 0, none⟩) m m, .bool S.stops, .int .i64 S.left, .int .i64 S.wr, .int .i64 S.fl] := hOz
            have hrd : WZ.drew.rangeAt sb (k * 64) (bytesV (crashRB R keep torn n k)) := (World.rangeAt_drew _ _ _ _).2 hrs
            have htd : WZ.drew.there lb (k * 64) 64 := (World.there_drew _ _ _ _).2 (there_part HT.out.last.there (by have := HT.out.ok.ll; rw [List.length_set, HSL.out] at this; show k * 64 + 64 ≤ S.last.length * 64; rw [this]; omega))
            have hne := HT.out.ne
            have hOc := hOd.kept hgc (fun e => hne.2.1 (Option.some.inj e))
            have hrc := range_of_block (hgc.block sb (show sb < WZ.drew.heap.size from HT.out.sure.lt) (fun e => hne.2.2.2.1 (Option.some.inj e))) hrd
            generalize S.dirty.getD k false = od at *
            generalize hbs : crashRB R keep torn n k = bs at *
            have HSZ := Lib.hid (show (bytesV bs).toArray.size = 64 by simp [bytesV_length, HC64.out])
            have HL := Lib.hid HC64.out
            clear hrs hOz hb hdl2 hgc hbs HT HTD HVZ
            go_wp2_with fail
            refine Pu.regionM [(0, false), (1, false), (2, false), (3, false), (4, false), (5, false), (6, false), (7, false), (8, false), (9, false), (10, false), (11, false), (12, false), (13, false), (14, false), (15, false), (16, false), (17, false), (18, true), (19, false), (20, true)] (fun V => Ob V x 98 #[.slice (some ⟨sb, 0, none⟩) m m, .slice (some ⟨lb, 0, none⟩) m m, .slice (some ⟨tb, 0, none⟩) m m, .bool S.stops, .int .i64 S.left, .int .i64 S.wr, .int .i64 S.fl] ∧ V.rangeAt sb (k * 64) (bytesV bs)) hmx (by kernel_rfl) (by kernel_rfl) (by kernel_rfl) ⟨hOd, hrd⟩ rfl ?_
            simp only [Pu.named, List.filterMap_cons, List.filterMap_nil, List.getElem?_toArray, List.getElem?_cons_succ, List.getElem?_cons_zero, Option.map_some]
            iterate 16 (first
              | (refine Pu.WalkM.off (by rfl) ?_; simp only [Act.put, List.setIfInBounds_toArray, List.set_cons_succ, List.set_cons_zero])
              | (apply Pu.WalkM.on (by rfl)
                 · intro V hV
                   obtain ⟨gO, gr⟩ := hV
                   have y0 := gO.cell (j := 0) (v := .slice (some ⟨sb, 0, none⟩) m m) rfl
                   have y1 := gO.cell (j := 1) (v := .slice (some ⟨lb, 0, none⟩) m m) rfl
                   have y2 := gO.cell (j := 2) (v := .slice (some ⟨tb, 0, none⟩) m m) rfl
                   go_wp2_with fail
                   refine ⟨rfl, ?_, rfl⟩
                   try simp only [Act.put, List.setIfInBounds_toArray, List.set_cons_succ, List.set_cons_zero]
                   rfl
                 simp only [Act.put, List.setIfInBounds_toArray, List.set_cons_succ, List.set_cons_zero]))
            apply Pu.WalkM.on (by rfl)
            · intro V hV
              obtain ⟨gO, gr⟩ := hV
              refine wpList_load_mid rfl 102 (.tmp 108) rfl sb (k * 64) rfl (bytesV bs) _ gr Try.underlying102 rfl (by rw [bytesV_length, HL.out]; kernel_rfl) ?_
              go_wp2_with fail
              refine ⟨rfl, ?_, rfl⟩
              try simp only [Act.put, List.setIfInBounds_toArray, List.set_cons_succ, List.set_cons_zero]
              rfl
            simp only [Act.put, List.setIfInBounds_toArray, List.set_cons_succ, List.set_cons_zero]
            iterate 1 (first
              | (refine Pu.WalkM.off (by rfl) ?_; simp only [Act.put, List.setIfInBounds_toArray, List.set_cons_succ, List.set_cons_zero])
              | (apply Pu.WalkM.on (by rfl)
                 · intro V hV
                   obtain ⟨gO, gr⟩ := hV
                   have y0 := gO.cell (j := 0) (v := .slice (some ⟨sb, 0, none⟩) m m) rfl
                   have y1 := gO.cell (j := 1) (v := .slice (some ⟨lb, 0, none⟩) m m) rfl
                   have y2 := gO.cell (j := 2) (v := .slice (some ⟨tb, 0, none⟩) m m) rfl
                   go_wp2_with fail
                   refine ⟨rfl, ?_, rfl⟩
                   try simp only [Act.put, List.setIfInBounds_toArray, List.set_cons_succ, List.set_cons_zero]
                   rfl
                 simp only [Act.put, List.setIfInBounds_toArray, List.set_cons_succ, List.set_cons_zero]))
            generalize hWd : WZ.drew = WD at *
            clear hWd
            refine Pu.WalkM.make (by rfl) ?_
            intro V hV
            rw [hV]
            clear hV V
            refine wpList_store_mid rfl 102 (.tmp 110) (.tmp 109) rfl lb (k * 64) (bytesV bs).toArray rfl rfl (by rw [HSZ.out]; exact htd) (by rw [HSZ.out]; kernel_rfl) (all_oneCell_toArray (bytesV_one bs)) ?_
            have eT : (bytesV bs).toArray.toList = bytesV bs := by simp
            rw [eT]
            clear eT
            refine ⟨rfl, undef, _, (fun V => V = WD.setCells lb (k * 64) (bytesV bs)), rfl, rfl, (fun V h => by rw [h]; exact ⟨hOc, hrc⟩), (.inr (fun _ h => h)), ?_⟩
            simp only [Act.put]
            generalize hWe : WD.setCells lb (k * 64) (bytesV bs) = WE at *
            clear hWe
            iterate 1 (first
              | (refine Pu.WalkM.off (by rfl) ?_; simp only [Act.put, List.setIfInBounds_toArray, List.set_cons_succ, List.set_cons_zero])
              | (apply Pu.WalkM.on (by rfl)
                 · intro V hV
                   obtain ⟨gO, gr⟩ := hV
                   have y0 := gO.cell (j := 0) (v := .slice (some ⟨sb, 0, none⟩) m m) rfl
                   have y1 := gO.cell (j := 1) (v := .slice (some ⟨lb, 0, none⟩) m m) rfl
                   have y2 := gO.cell (j := 2) (v := .slice (some ⟨tb, 0, none⟩) m m) rfl
                   go_wp2_with fail
                   refine ⟨rfl, ?_, rfl⟩
                   try simp only [Act.put, List.setIfInBounds_toArray, List.set_cons_succ, List.set_cons_zero]
                   rfl
                 simp only [Act.put, List.setIfInBounds_toArray, List.set_cons_succ, List.set_cons_zero]))
            refine Pu.WalkM.make (by rfl) ?_
            intro V hV
            rw [hV]
            clear hV V
            go_wp2_with fail
            refine ⟨rfl, undef, (fun _ => True), (fun V => V = WE.setCell ⟨tb, k, none⟩ (.bool false)), rfl, rfl, (fun _ _ => trivial), (.inl (by kernel_rfl)), Pu.WalkM.nil ?_⟩
            intro V hV
            rw [hV]
            clear hV V
            simp only [Act.put]
            clear hc2 hf2 hOd hrd htd hOc hrc
            go_wp2
            exact ⟨⟨k + 1, by omega, by go_num, HT2.out, HVS.out⟩, by simp [intOf]; omega⟩
          | true =>
            by_cases hkk : (k : Int) ∈ keep
            · rw [hdk] at hdc
              have hkp : decide ((k : Int) ∈ keep) = true := by simpa using hkk
              have hkc : crashRB R keep torn n k = S.last.getD k [] := by rw [HN.out.2.1]; unfold crashRB; rw [hdk, if_pos rfl, if_pos hkk]
              have hb := (Below.refl wo.heap.size wo).drew
              have hr : wo.rangeAt lb (k * 64) (bytesV (crashRB R keep torn n k)) := by
                have hll : k < S.last.length := by rw [HW.out.ok.ll, HSL.out]; exact hlt
                have h1 := HW.out.last.at_ k hll
                rw [hkc, List.getD_eq_getElem?_getD, List.getElem?_eq_getElem hll]
                exact h1
              have HT := Lib.hid ((HW.out.same hb).setSure (i := k) (b := crashRB R keep torn n k) (by rw [HSL.out]; exact hlt) HC64.out)
              have hgc := grownBy_cells (b := sb) (bytesV (crashRB R keep torn n k)) wo.drew (k * 64)
              have HVZ := Lib.hid ((HV.out.trans Rev.drew).trans (Rev.of (x := x) (sb := sb) (lb := lb) (tb := tb) hgc (.inr (.inl rfl))))
              have hOd : Ob wo.drew x 98 #[.slice (some ⟨sb, 0, none⟩) m m, .slice (some ⟨lb, 0, none⟩) m m, .slice (some ⟨tb, 0, none⟩) m m, .bool S.stops, .int .i64 S.left, .int .i64 S.wr, .int .i64 S.fl] := HO.out
              have hrd : wo.drew.rangeAt lb (k * 64) (bytesV (crashRB R keep torn n k)) := (World.rangeAt_drew _ _ _ _).2 hr
              have htd : wo.drew.there sb (k * 64) 64 := (World.there_drew _ _ _ _).2 (there_part HW.out.sure.there (by rw [HSL.out]; omega))
              have HSZ := Lib.hid (show (bytesV (crashRB R keep torn n k)).toArray.size = 64 by simp [bytesV_length, HC64.out])
              have HL := HC64
              obtain ⟨bs, hbs⟩ : ∃ bs, bs = crashRB R keep torn n k := ⟨_, rfl⟩
              rw [← hbs] at hrd HSZ HL HT HVZ
              have HBS := Lib.hid hbs
              clear hb hr hgc hkc hbs
              go_wp2_with fail
              refine Pu.regionM [(0, false), (1, false), (2, false), (3, false), (4, false), (5, false), (6, false), (7, false), (8, false), (9, false), (10, false), (11, false), (12, false), (13, true)] (fun V => Ob V x 98 #[.slice (some ⟨sb, 0, none⟩) m m, .slice (some ⟨lb, 0, none⟩) m m, .slice (some ⟨tb, 0, none⟩) m m, .bool S.stops, .int .i64 S.left, .int .i64 S.wr, .int .i64 S.fl] ∧ V.rangeAt lb (k * 64) (bytesV bs)) hmx (by kernel_rfl) (by kernel_rfl) (by kernel_rfl) ⟨hOd, hrd⟩ rfl ?_
              simp only [Pu.named, List.filterMap_cons, List.filterMap_nil, List.getElem?_toArray, List.getElem?_cons_succ, List.getElem?_cons_zero, Option.map_some]
              iterate 11 (first
                | (refine Pu.WalkM.off (by rfl) ?_; simp only [Act.put, List.setIfInBounds_toArray, List.set_cons_succ, List.set_cons_zero])
                | (apply Pu.WalkM.on (by rfl)
                   · intro V hV
                     obtain ⟨gO, gr⟩ := hV
                     have y0 := gO.cell (j := 0) (v := .slice (some ⟨sb, 0, none⟩) m m) rfl
                     have y1 := gO.cell (j := 1) (v := .slice (some ⟨lb, 0, none⟩) m m) rfl
                     have y2 := gO.cell (j := 2) (v := .slice (some ⟨tb, 0, none⟩) m m) rfl
                     go_wp2_with fail
                     refine ⟨rfl, ?_, rfl⟩
                     try simp only [Act.put, List.setIfInBounds_toArray, List.set_cons_succ, List.set_cons_zero]
                     rfl
                   simp only [Act.put, List.setIfInBounds_toArray, List.set_cons_succ, List.set_cons_zero]))
              apply Pu.WalkM.on (by rfl)
              · intro V hV
                obtain ⟨gO, gr⟩ := hV
                refine wpList_load_mid rfl 102 (.tmp 64) rfl lb (k * 64) rfl (bytesV bs) _ gr Try.underlying102 rfl (by rw [bytesV_length, HL.out]; kernel_rfl) ?_
                go_wp2_with fail
                refine ⟨rfl, ?_, rfl⟩
                try simp only [Act.put, List.setIfInBounds_toArray, List.set_cons_succ, List.set_cons_zero]
                rfl
              simp only [Act.put, List.setIfInBounds_toArray, List.set_cons_succ, List.set_cons_zero]
              iterate 1 (first
                | (refine Pu.WalkM.off (by rfl) ?_; simp only [Act.put, List.setIfInBounds_toArray, List.set_cons_succ, List.set_cons_zero])
                | (apply Pu.WalkM.on (by rfl)
                   · intro V hV
                     obtain ⟨gO, gr⟩ := hV
                     have y0 := gO.cell (j := 0) (v := .slice (some ⟨sb, 0, none⟩) m m) rfl
                     have y1 := gO.cell (j := 1) (v := .slice (some ⟨lb, 0, none⟩) m m) rfl
                     have y2 := gO.cell (j := 2) (v := .slice (some ⟨tb, 0, none⟩) m m) rfl
                     go_wp2_with fail
                     refine ⟨rfl, ?_, rfl⟩
                     try simp only [Act.put, List.setIfInBounds_toArray, List.set_cons_succ, List.set_cons_zero]
                     rfl
                   simp only [Act.put, List.setIfInBounds_toArray, List.set_cons_succ, List.set_cons_zero]))
              generalize hWd : wo.drew = WD at *
              clear hWd
              refine Pu.WalkM.make (by rfl) ?_
              intro V hV
              rw [hV]
              clear hV V
              refine wpList_store_mid rfl 102 (.tmp 66) (.tmp 65) rfl sb (k * 64) (bytesV bs).toArray rfl rfl (by rw [HSZ.out]; exact htd) (by rw [HSZ.out]; kernel_rfl) (all_oneCell_toArray (bytesV_one bs)) ?_
              have eT : (bytesV bs).toArray.toList = bytesV bs := by simp
              rw [eT]
              clear eT
              refine ⟨rfl, undef, (fun _ => True), (fun V => V = WD.setCells sb (k * 64) (bytesV bs)), rfl, rfl, (fun _ _ => trivial), (.inl (by kernel_rfl)), Pu.WalkM.nil ?_⟩
              intro V hV
              rw [hV]
              clear hV V
              simp only [Act.put]
              obtain ⟨WZ, hWZ⟩ : ∃ X : World, X = WD.setCells sb (k * 64) (bytesV bs) := ⟨_, rfl⟩
              rw [← hWZ] at HT HVZ ⊢
              rw [HBS.out] at HT
              clear hWZ hOd hrd htd HL HSZ HBS
              have hrs : WZ.rangeAt sb (k * 64) (bytesV (crashRB R keep torn n k)) := by
                have h1 := HT.out.sure.at_ k (by rw [List.length_set, HSL.out]; exact hlt)
                rw [List.getElem_set_self] at h1
                exact h1
              have hOz := HT.out.ob
              simp only [revC, List.length_set, HSL.out] at hOz
              have hb := (Below.refl WZ.heap.size WZ).drew
              have HTD := Lib.hid (HT.out.same hb)
              have HT1 := Lib.hid (HTD.out.setLast (i := k) (b := crashRB R keep torn n k) (by rw [List.length_set, HSL.out]; exact hlt) HC64.out)
              have hdl2 : k < S.dirty.length := by have := HT.out.ok.dl; rw [List.length_set, HSL.out] at this; show k < S.dirty.length; rw [this]; exact hlt
              have hc2 := HT1.out.dirty.cell (boolC_get hdl2)
              have hf2 := HT1.out.dirty.frozen k
              have HT2 := Lib.hid (show RvAt _ base x sb lb tb (crS R keep torn n (k + 1)) from by rw [HNEXT.out]; exact HT1.out.setDirty k false)
              have hgc := grownBy_cells (b := lb) (bytesV (crashRB R keep torn n k)) WZ.drew (k * 64)
              have HVS := Lib.hid ((HVZ.out.trans Rev.drew).trans ((Rev.of (x := x) (sb := sb) (lb := lb) (tb := tb) hgc (.inr (.inr (.inl rfl)))).trans (Rev.of (x := x) (sb := sb) (lb := lb) (tb := tb) (grownBy_set _ tb k (.bool false)) (.inr (.inr (.inr rfl))))))
              have hOd : Ob WZ.drew x 98 #[.slice (some ⟨sb, 0, none⟩) m m, .slice (some ⟨lb, 0, none⟩) m m, .slice (some ⟨tb, 0, none⟩) m m, .bool S.stops, .int .i64 S.left, .int .i64 S.wr, .int .i64 S.fl] := hOz
              have hrd : WZ.drew.rangeAt sb (k * 64) (bytesV (crashRB R keep torn n k)) := (World.rangeAt_drew _ _ _ _).2 hrs
              have htd : WZ.drew.there lb (k * 64) 64 := (World.there_drew _ _ _ _).2 (there_part HT.out.last.there (by have := HT.out.ok.ll; rw [List.length_set, HSL.out] at this; show k * 64 + 64 ≤ S.last.length * 64; rw [this]; omega))
              have hne := HT.out.ne
              have hOc := hOd.kept hgc (fun e => hne.2.1 (Option.some.inj e))
              have hrc := range_of_block (hgc.block sb (show sb < WZ.drew.heap.size from HT.out.sure.lt) (fun e => hne.2.2.2.1 (Option.some.inj e))) hrd
              generalize S.dirty.getD k false = od at *
              generalize hbs : crashRB R keep torn n k = bs at *
              have HSZ := Lib.hid (show (bytesV bs).toArray.size = 64 by simp [bytesV_length, HC64.out])
              have HL := Lib.hid HC64.out
              clear hrs hOz hb hdl2 hgc hbs HT HTD HVZ
              go_wp2_with fail
              refine Pu.regionM [(0, false), (1, false), (2, false), (3, false), (4, false), (5, false), (6, false), (7, false), (8, false), (9, false), (10, false), (11, false), (12, false), (13, false), (14, false), (15, false), (16, false), (17, false), (18, true), (19, false), (20, true)] (fun V => Ob V x 98 #[.slice (some ⟨sb, 0, none⟩) m m, .slice (some ⟨lb, 0, none⟩) m m, .slice (some ⟨tb, 0, none⟩) m m, .bool S.stops, .int .i64 S.left, .int .i64 S.wr, .int .i64 S.fl] ∧ V.rangeAt sb (k * 64) (bytesV bs)) hmx (by kernel_rfl) (by kernel_rfl) (by kernel_rfl) ⟨hOd, hrd⟩ rfl ?_
              simp only [Pu.named, List.filterMap_cons, List.filterMap_nil, List.getElem?_toArray, List.getElem?_cons_succ, List.getElem?_cons_zero, Option.map_some]
              iterate 16 (first
                | (refine Pu.WalkM.off (by rfl) ?_; simp only [Act.put, List.setIfInBounds_toArray, List.set_cons_succ, List.set_cons_zero])
                | (apply Pu.WalkM.on (by rfl)
                   · intro V hV
                     obtain ⟨gO, gr⟩ := hV
                     have y0 := gO.cell (j := 0) (v := .slice (some ⟨sb, 0, none⟩) m m) rfl
                     have y1 := gO.cell (j := 1) (v := .slice (some ⟨lb, 0, none⟩) m m) rfl
                     have y2 := gO.cell (j := 2) (v := .slice (some ⟨tb, 0, none⟩) m m) rfl
                     go_wp2_with fail
                     refine ⟨rfl, ?_, rfl⟩
                     try simp only [Act.put, List.setIfInBounds_toArray, List.set_cons_succ, List.set_cons_zero]
                     rfl
                   simp only [Act.put, List.setIfInBounds_toArray, List.set_cons_succ, List.set_cons_zero]))
              apply Pu.WalkM.on (by rfl)
              · intro V hV
                obtain ⟨gO, gr⟩ := hV
                refine wpList_load_mid rfl 102 (.tmp 108) rfl sb (k * 64) rfl (bytesV bs) _ gr Try.underlying102 rfl (by rw [bytesV_length, HL.out]; kernel_rfl) ?_
                go_wp2_with fail
                refine ⟨rfl, ?_, rfl⟩
                try simp only [Act.put, List.setIfInBounds_toArray, List.set_cons_succ, List.set_cons_zero]
                rfl
              simp only [Act.put, List.setIfInBounds_toArray, List.set_cons_succ, List.set_cons_zero]
              iterate 1 (first
                | (refine Pu.WalkM.off (by rfl) ?_; simp only [Act.put, List.setIfInBounds_toArray, List.set_cons_succ, List.set_cons_zero])
                | (apply Pu.WalkM.on (by rfl)
                   · intro V hV
                     obtain ⟨gO, gr⟩ := hV
                     have y0 := gO.cell (j := 0) (v := .slice (some ⟨sb, 0, none⟩) m m) rfl
                     have y1 := gO.cell (j := 1) (v := .slice (some ⟨lb, 0, none⟩) m m) rfl
                     have y2 := gO.cell (j := 2) (v := .slice (some ⟨tb, 0, none⟩) m m) rfl
                     go_wp2_with fail
                     refine ⟨rfl, ?_, rfl⟩
                     try simp only [Act.put, List.setIfInBounds_toArray, List.set_cons_succ, List.set_cons_zero]
                     rfl
                   simp only [Act.put, List.setIfInBounds_toArray, List.set_cons_succ, List.set_cons_zero]))
              generalize hWd : WZ.drew = WD at *
              clear hWd
              refine Pu.WalkM.make (by rfl) ?_
              intro V hV
              rw [hV]
              clear hV V
              refine wpList_store_mid rfl 102 (.tmp 110) (.tmp 109) rfl lb (k * 64) (bytesV bs).toArray rfl rfl (by rw [HSZ.out]; exact htd) (by rw [HSZ.out]; kernel_rfl) (all_oneCell_toArray (bytesV_one bs)) ?_
              have eT : (bytesV bs).toArray.toList = bytesV bs := by simp
              rw [eT]
              clear eT
              refine ⟨rfl, undef, _, (fun V => V = WD.setCells lb (k * 64) (bytesV bs)), rfl, rfl, (fun V h => by rw [h]; exact ⟨hOc, hrc⟩), (.inr (fun _ h => h)), ?_⟩
              simp only [Act.put]
              generalize hWe : WD.setCells lb (k * 64) (bytesV bs) = WE at *
              clear hWe
              iterate 1 (first
                | (refine Pu.WalkM.off (by rfl) ?_; simp only [Act.put, List.setIfInBounds_toArray, List.set_cons_succ, List.set_cons_zero])
                | (apply Pu.WalkM.on (by rfl)
                   · intro V hV
                     obtain ⟨gO, gr⟩ := hV
                     have y0 := gO.cell (j := 0) (v := .slice (some ⟨sb, 0, none⟩) m m) rfl
                     have y1 := gO.cell (j := 1) (v := .slice (some ⟨lb, 0, none⟩) m m) rfl
                     have y2 := gO.cell (j := 2) (v := .slice (some ⟨tb, 0, none⟩) m m) rfl
                     go_wp2_with fail
                     refine ⟨rfl, ?_, rfl⟩
                     try simp only [Act.put, List.setIfInBounds_toArray, List.set_cons_succ, List.set_cons_zero]
                     rfl
                   simp only [Act.put, List.setIfInBounds_toArray, List.set_cons_succ, List.set_cons_zero]))
              refine Pu.WalkM.make (by rfl) ?_
              intro V hV
              rw [hV]
              clear hV V
              go_wp2_with fail
              refine ⟨rfl, undef, (fun _ => True), (fun V => V = WE.setCell ⟨tb, k, none⟩ (.bool false)), rfl, rfl, (fun _ _ => trivial), (.inl (by kernel_rfl)), Pu.WalkM.nil ?_⟩
              intro V hV
              rw [hV]
              clear hV V
              simp only [Act.put]
              clear hc2 hf2 hOd hrd htd hOc hrc
              go_wp2
              exact ⟨⟨k + 1, by omega, by go_num, HT2.out, HVS.out⟩, by simp [intOf]; omega⟩
            · by_cases htt : (k : Int) = torn
              · rw [hdk] at hdc
                have hkp : decide ((k : Int) ∈ keep) = false := by simpa using hkk
                have htq : ((k : Int) == torn) = true := by simpa using htt
                have HCE := Lib.hid (show crashRB R keep torn n k = partB (S.sure.getD k []) (S.last.getD k []) n by rw [HN.out.1, HN.out.2.1]; unfold crashRB partB; rw [hdk, if_pos rfl, if_neg hkk, if_pos htt])
                have hls := surer_len HW.out.ok (i := k) (by rw [HSL.out]; exact hlt)
                have hll := last_len HW.out.ok (i := k) (by rw [HSL.out]; exact hlt)
                have HLS := Lib.hid hls
                have HLL := Lib.hid hll
                clear hls hll htt
                go_wp2_with fail
                go_loopw [12] (fun q wr => ∃ j : Nat, j ≤ n ∧ q = .int .i64 j ∧ RvAt wr base x sb lb tb { S with sure := S.sure.set k (partB (S.sure.getD k []) (S.last.getD k []) j) } ∧ Rev x sb lb tb w wr) (fun q _ => n - (intOf q).toNat)
                case atStart => exact ⟨0, by omega, rfl, by rw [partB_zero, set_getD]; exact HW.out, HV.out⟩
                case round =>
                  obtain ⟨j, hj, rfl, hT, hVT⟩ := hrel
                  clear yy0 yy2 hdc
                  by_cases hjn : j < n
                  · have hdj : decide ((j : Int) < (n : Int)) = true := by simp; omega
                    have hdj' : decide (j < n) = true := by simpa using hjn
                    have hd64 : decide ((j : Int) < 64) = true := by simp; omega
                    have hOt := hT.ob
                    simp only [revC, List.length_set, HSL.out] at hOt
                    have hb := (Below.refl wr.heap.size wr).drew
                    have hTD := hT.same hb
                    have hlk : k < S.last.length := by have := hT.ok.ll; rw [List.length_set, HSL.out] at this; show k < S.last.length; rw [this]; exact hlt
                    have hcl : wr.drew.cell? ⟨lb, k * 64 + j, none⟩ = some (.int .u8 (((S.last.getD k []).getD j 0).toNat : Int)) := hTD.last.at_ k hlk j _ (by
                      have e1 : S.last[k] = S.last.getD k [] := by rw [List.getD_eq_getElem?_getD, List.getElem?_eq_getElem hlk]; rfl
                      rw [e1]
                      exact bytesV_getD (by rw [HLL.out]; omega))
                    have hsk : k < (S.sure.set k (partB (S.sure.getD k []) (S.last.getD k []) j)).length := by rw [List.length_set, HSL.out]; exact hlt
                    have hcs := hTD.sure.at_ k hsk j (.int .u8 (((partB (S.sure.getD k []) (S.last.getD k []) j).getD j 0).toNat : Int)) (by
                      rw [List.getElem_set_self]
                      exact bytesV_getD (by rw [partB_len HLS.out HLL.out (by omega)]; omega))
                    have hfs := (hTD.sure.there (k * 64 + j) (by rw [List.length_set, HSL.out]; omega)).2
                    rw [Nat.zero_add] at hfs
                    have hst := hTD.sureByte (i := k) (j := j) (by rw [List.length_set, HSL.out]; exact hlt) (by omega) ((S.last.getD k []).getD j 0)
                    dsimp only at hst
                    rw [getD_set_self (by rw [HSL.out]; exact hlt), List.set_set, partB_step HLS.out HLL.out (by omega)] at hst
                    have HST := Lib.hid hst
                    have hgl := grownBy_set wr.drew sb (k * 64 + j) (.int .u8 (((S.last.getD k []).getD j 0).toNat : Int))
                    have HVS := Lib.hid ((hVT.trans Rev.drew).trans (Rev.of (x := x) (sb := sb) (lb := lb) (tb := tb) hgl (.inr (.inl rfl))))
                    have hOd : Ob wr.drew x 98 #[.slice (some ⟨sb, 0, none⟩) m m, .slice (some ⟨lb, 0, none⟩) m m, .slice (some ⟨tb, 0, none⟩) m m, .bool S.stops, .int .i64 S.left, .int .i64 S.wr, .int .i64 S.fl] := hOt
                    have hOe := hOd.kept hgl (fun e => hT.ne.1 (Option.some.inj e))
                    have hce := hgl.cell hcl (fun e => hT.ne.2.2.2.1 (Option.some.inj e).symm)
                    generalize ((partB (S.sure.getD k []) (S.last.getD k []) j).getD j 0) = old at *
                    generalize ((S.last.getD k []).getD j 0) = cc at *
                    clear hT hVT hb hTD hlk hsk hst hgl
                    have zz0 := hOt.cell (j := 0) (v := .slice (some ⟨sb, 0, none⟩) m m) rfl
                    clear hOt zz0
                    go_wp2_with fail
                    refine Pu.regionM [(0, false), (1, false), (2, false), (3, false), (4, false), (5, false), (6, false), (7, false), (8, false), (9, false), (10, false), (11, false), (12, false), (13, false), (14, false), (15, false), (16, false), (17, true)] (fun V => Ob V x 98 #[.slice (some ⟨sb, 0, none⟩) m m, .slice (some ⟨lb, 0, none⟩) m m, .slice (some ⟨tb, 0, none⟩) m m, .bool S.stops, .int .i64 S.left, .int .i64 S.wr, .int .i64 S.fl] ∧ V.cell? ⟨lb, k * 64 + j, none⟩ = some (.int .u8 (cc.toNat : Int))) hmx (by kernel_rfl) (by kernel_rfl) (by kernel_rfl) ⟨hOd, hcl⟩ rfl ?_
                    simp only [Pu.named, List.filterMap_cons, List.filterMap_nil, List.getElem?_toArray, List.getElem?_cons_succ, List.getElem?_cons_zero, Option.map_some]
                    iterate 17 (first
                      | (refine Pu.WalkM.off (by rfl) ?_; simp only [Act.put, List.setIfInBounds_toArray, List.set_cons_succ, List.set_cons_zero])
                      | (apply Pu.WalkM.on (by rfl)
                         · intro V hV
                           obtain ⟨gO, gr⟩ := hV
                           have y0 := gO.cell (j := 0) (v := .slice (some ⟨sb, 0, none⟩) m m) rfl
                           have y1 := gO.cell (j := 1) (v := .slice (some ⟨lb, 0, none⟩) m m) rfl
                           have y2 := gO.cell (j := 2) (v := .slice (some ⟨tb, 0, none⟩) m m) rfl
                           go_wp2_with fail
                           refine ⟨rfl, ?_, rfl⟩
                           try simp only [Act.put, List.setIfInBounds_toArray, List.set_cons_succ, List.set_cons_zero]
                           rfl
                         simp only [Act.put, List.setIfInBounds_toArray, List.set_cons_succ, List.set_cons_zero]))
                    refine Pu.WalkM.make (by rfl) ?_
                    intro V hV
                    rw [hV]
                    clear hV V
                    generalize hWd : wr.drew = WD at *
                    clear hWd
                    go_wp2_with fail
                    refine ⟨rfl, undef, _, (fun V => V = WD.setCell ⟨sb, k * 64 + j, none⟩ (.int .u8 (cc.toNat : Int))), rfl, rfl, (fun V h => by rw [h]; exact ⟨hOe, hce⟩), (.inr (fun _ h => h)), Pu.WalkM.nil ?_⟩
                    intro V hV
                    rw [hV]
                    clear hV V
                    simp only [Act.put]
                    clear hcl hcs hfs hOd hOe hce
                    go_wp2
                    exact ⟨⟨j + 1, by omega, by go_num, HST.out, HVS.out⟩, by simp [intOf]; omega⟩
                  · obtain rfl : j = n := by omega
                    have hdj : decide ((j : Int) < (j : Int)) = false := by simp
                    have hdj' : decide (j < j) = false := by simp
                    rw [← HCE.out] at hT
                    have HT := Lib.hid hT
                    have HVZ := Lib.hid hVT
                    obtain ⟨WZ, hWZ⟩ : ∃ X : World, X = wr := ⟨_, rfl⟩
                    rw [← hWZ] at HT HVZ ⊢
                    clear hWZ hT hVT HCE
                    have hrs : WZ.rangeAt sb (k * 64) (bytesV (crashRB R keep torn j k)) := by
                      have h1 := HT.out.sure.at_ k (by rw [List.length_set, HSL.out]; exact hlt)
                      rw [List.getElem_set_self] at h1
                      exact h1
                    have hOz := HT.out.ob
                    simp only [revC, List.length_set, HSL.out] at hOz
                    have hb := (Below.refl WZ.heap.size WZ).drew
                    have HTD := Lib.hid (HT.out.same hb)
                    have HT1 := Lib.hid (HTD.out.setLast (i := k) (b := crashRB R keep torn j k) (by rw [List.length_set, HSL.out]; exact hlt) HC64.out)
                    have hdl2 : k < S.dirty.length := by have := HT.out.ok.dl; rw [List.length_set, HSL.out] at this; show k < S.dirty.length; rw [this]; exact hlt
                    have hc2 := HT1.out.dirty.cell (boolC_get hdl2)
                    have hf2 := HT1.out.dirty.frozen k
                    have HT2 := Lib.hid (show RvAt _ base x sb lb tb (crS R keep torn j (k + 1)) from by rw [HNEXT.out]; exact HT1.out.setDirty k false)
                    have hgc := grownBy_cells (b := lb) (bytesV (crashRB R keep torn j k)) WZ.drew (k * 64)
                    have HVS := Lib.hid ((HVZ.out.trans Rev.drew).trans ((Rev.of (x := x) (sb := sb) (lb := lb) (tb := tb) hgc (.inr (.inr (.inl rfl)))).trans (Rev.of (x := x) (sb := sb) (lb := lb) (tb := tb) (grownBy_set _ tb k (.bool false)) (.inr (.inr (.inr rfl))))))
                    have hOd : Ob WZ.drew x 98 #[.slice (some ⟨sb, 0, none⟩) m m, .slice (some ⟨lb, 0, none⟩) m m, .slice (some ⟨tb, 0, none⟩) m m, .bool S.stops, .int .i64 S.left, .int .i64 S.wr, .int .i64 S.fl] := hOz
                    have hrd : WZ.drew.rangeAt sb (k * 64) (bytesV (crashRB R keep torn j k)) := (World.rangeAt_drew _ _ _ _).2 hrs
                    have htd : WZ.drew.there lb (k * 64) 64 := (World.there_drew _ _ _ _).2 (there_part HT.out.last.there (by have := HT.out.ok.ll; rw [List.length_set, HSL.out] at this; show k * 64 + 64 ≤ S.last.length * 64; rw [this]; omega))
                    have hne := HT.out.ne
                    have hOc := hOd.kept hgc (fun e => hne.2.1 (Option.some.inj e))
                    have hrc := range_of_block (hgc.block sb (show sb < WZ.drew.heap.size from HT.out.sure.lt) (fun e => hne.2.2.2.1 (Option.some.inj e))) hrd
                    generalize S.dirty.getD k false = od at *
                    generalize hbs : crashRB R keep torn j k = bs at *
                    have HSZ := Lib.hid (show (bytesV bs).toArray.size = 64 by simp [bytesV_length, HC64.out])
                    have HL := Lib.hid HC64.out
                    clear hrs hOz hb hdl2 hgc hbs HT HTD HVZ
                    go_wp2_with fail
                    refine Pu.regionM [(0, false), (1, false), (2, false), (3, false), (4, false), (5, false), (6, false), (7, false), (8, false), (9, false), (10, false), (11, false), (12, false), (13, false), (14, false), (15, false), (16, false), (17, false), (18, true), (19, false), (20, true)] (fun V => Ob V x 98 #[.slice (some ⟨sb, 0, none⟩) m m, .slice (some ⟨lb, 0, none⟩) m m, .slice (some ⟨tb, 0, none⟩) m m, .bool S.stops, .int .i64 S.left, .int .i64 S.wr, .int .i64 S.fl] ∧ V.rangeAt sb (k * 64) (bytesV bs)) hmx (by kernel_rfl) (by kernel_rfl) (by kernel_rfl) ⟨hOd, hrd⟩ rfl ?_
                    simp only [Pu.named, List.filterMap_cons, List.filterMap_nil, List.getElem?_toArray, List.getElem?_cons_succ, List.getElem?_cons_zero, Option.map_some]
                    iterate 16 (first
                      | (refine Pu.WalkM.off (by rfl) ?_; simp only [Act.put, List.setIfInBounds_toArray, List.set_cons_succ, List.set_cons_zero])
                      | (apply Pu.WalkM.on (by rfl)
                         · intro V hV
                           obtain ⟨gO, gr⟩ := hV
                           have y0 := gO.cell (j := 0) (v := .slice (some ⟨sb, 0, none⟩) m m) rfl
                           have y1 := gO.cell (j := 1) (v := .slice (some ⟨lb, 0, none⟩) m m) rfl
                           have y2 := gO.cell (j := 2) (v := .slice (some ⟨tb, 0, none⟩) m m) rfl
                           go_wp2_with fail
                           refine ⟨rfl, ?_, rfl⟩
                           try simp only [Act.put, List.setIfInBounds_toArray, List.set_cons_succ, List.set_cons_zero]
                           rfl
                         simp only [Act.put, List.setIfInBounds_toArray, List.set_cons_succ, List.set_cons_zero]))
                    apply Pu.WalkM.on (by rfl)
                    · intro V hV
                      obtain ⟨gO, gr⟩ := hV
                      refine wpList_load_mid rfl 102 (.tmp 108) rfl sb (k * 64) rfl (bytesV bs) _ gr Try.underlying102 rfl (by rw [bytesV_length, HL.out]; kernel_rfl) ?_
                      go_wp2_with fail
                      refine ⟨rfl, ?_, rfl⟩
                      try simp only [Act.put, List.setIfInBounds_toArray, List.set_cons_succ, List.set_cons_zero]
                      rfl
                    simp only [Act.put, List.setIfInBounds_toArray, List.set_cons_succ, List.set_cons_zero]
                    iterate 1 (first
                      | (refine Pu.WalkM.off (by rfl) ?_; simp only [Act.put, List.setIfInBounds_toArray, List.set_cons_succ, List.set_cons_zero])
                      | (apply Pu.WalkM.on (by rfl)
                         · intro V hV
                           obtain ⟨gO, gr⟩ := hV
                           have y0 := gO.cell (j := 0) (v := .slice (some ⟨sb, 0, none⟩) m m) rfl
                           have y1 := gO.cell (j := 1) (v := .slice (some ⟨lb, 0, none⟩) m m) rfl
                           have y2 := gO.cell (j := 2) (v := .slice (some ⟨tb, 0, none⟩) m m) rfl
                           go_wp2_with fail
                           refine ⟨rfl, ?_, rfl⟩
                           try simp only [Act.put, List.setIfInBounds_toArray, List.set_cons_succ, List.set_cons_zero]
                           rfl
                         simp only [Act.put, List.setIfInBounds_toArray, List.set_cons_succ, List.set_cons_zero]))
                    generalize hWd : WZ.drew = WD at *
                    clear hWd
                    refine Pu.WalkM.make (by rfl) ?_
                    intro V hV
                    rw [hV]
                    clear hV V
                    refine wpList_store_mid rfl 102 (.tmp 110) (.tmp 109) rfl lb (k * 64) (bytesV bs).toArray rfl rfl (by rw [HSZ.out]; exact htd) (by rw [HSZ.out]; kernel_rfl) (all_oneCell_toArray (bytesV_one bs)) ?_
                    have eT : (bytesV bs).toArray.toList = bytesV bs := by simp
                    rw [eT]
                    clear eT
                    refine ⟨rfl, undef, _, (fun V => V = WD.setCells lb (k * 64) (bytesV bs)), rfl, rfl, (fun V h => by rw [h]; exact ⟨hOc, hrc⟩), (.inr (fun _ h => h)), ?_⟩
                    simp only [Act.put]
                    generalize hWe : WD.setCells lb (k * 64) (bytesV bs) = WE at *
                    clear hWe
                    iterate 1 (first
                      | (refine Pu.WalkM.off (by rfl) ?_; simp only [Act.put, List.setIfInBounds_toArray, List.set_cons_succ, List.set_cons_zero])
                      | (apply Pu.WalkM.on (by rfl)
                         · intro V hV
                           obtain ⟨gO, gr⟩ := hV
                           have y0 := gO.cell (j := 0) (v := .slice (some ⟨sb, 0, none⟩) m m) rfl
                           have y1 := gO.cell (j := 1) (v := .slice (some ⟨lb, 0, none⟩) m m) rfl
                           have y2 := gO.cell (j := 2) (v := .slice (some ⟨tb, 0, none⟩) m m) rfl
                           go_wp2_with fail
                           refine ⟨rfl, ?_, rfl⟩
                           try simp only [Act.put, List.setIfInBounds_toArray, List.set_cons_succ, List.set_cons_zero]
                           rfl
                         simp only [Act.put, List.setIfInBounds_toArray, List.set_cons_succ, List.set_cons_zero]))
                    refine Pu.WalkM.make (by rfl) ?_
                    intro V hV
                    rw [hV]
                    clear hV V
                    go_wp2_with fail
                    refine ⟨rfl, undef, (fun _ => True), (fun V => V = WE.setCell ⟨tb, k, none⟩ (.bool false)), rfl, rfl, (fun _ _ => trivial), (.inl (by kernel_rfl)), Pu.WalkM.nil ?_⟩
                    intro V hV
                    rw [hV]
                    clear hV V
                    simp only [Act.put]
                    clear hc2 hf2 hOd hrd htd hOc hrc
                    go_wp2
                    exact ⟨⟨k + 1, by omega, by go_num, HT2.out, HVS.out⟩, by simp [intOf]; omega⟩
              · rw [hdk] at hdc
                have hkp : decide ((k : Int) ∈ keep) = false := by simpa using hkk
                have htq : ((k : Int) == torn) = false := by simpa using htt
                have HCE := Lib.hid (show crashRB R keep torn n k = S.sure.getD k [] by rw [HN.out.1]; unfold crashRB; rw [hdk, if_pos rfl, if_neg hkk, if_neg htt])
                have HT := Lib.hid (show RvAt wo base x sb lb tb { S with sure := S.sure.set k (crashRB R keep torn n k) } by rw [HCE.out, set_getD]; exact HW.out)
                have HVZ := HV
                obtain ⟨WZ, hWZ⟩ : ∃ X : World, X = wo := ⟨_, rfl⟩
                rw [← hWZ] at HT HVZ yy0 yy2 hdc ⊢
                clear hWZ HCE yy0
                have hrs : WZ.rangeAt sb (k * 64) (bytesV (crashRB R keep torn n k)) := by
                  have h1 := HT.out.sure.at_ k (by rw [List.length_set, HSL.out]; exact hlt)
                  rw [List.getElem_set_self] at h1
                  exact h1
                have hOz := HT.out.ob
                simp only [revC, List.length_set, HSL.out] at hOz
                have hb := (Below.refl WZ.heap.size WZ).drew
                have HTD := Lib.hid (HT.out.same hb)
                have HT1 := Lib.hid (HTD.out.setLast (i := k) (b := crashRB R keep torn n k) (by rw [List.length_set, HSL.out]; exact hlt) HC64.out)
                have hdl2 : k < S.dirty.length := by have := HT.out.ok.dl; rw [List.length_set, HSL.out] at this; show k < S.dirty.length; rw [this]; exact hlt
                have hc2 := HT1.out.dirty.cell (boolC_get hdl2)
                have hf2 := HT1.out.dirty.frozen k
                have HT2 := Lib.hid (show RvAt _ base x sb lb tb (crS R keep torn n (k + 1)) from by rw [HNEXT.out]; exact HT1.out.setDirty k false)
                have hgc := grownBy_cells (b := lb) (bytesV (crashRB R keep torn n k)) WZ.drew (k * 64)
                have HVS := Lib.hid ((HVZ.out.trans Rev.drew).trans ((Rev.of (x := x) (sb := sb) (lb := lb) (tb := tb) hgc (.inr (.inr (.inl rfl)))).trans (Rev.of (x := x) (sb := sb) (lb := lb) (tb := tb) (grownBy_set _ tb k (.bool false)) (.inr (.inr (.inr rfl))))))
                have hOd : Ob WZ.drew x 98 #[.slice (some ⟨sb, 0, none⟩) m m, .slice (some ⟨lb, 0, none⟩) m m, .slice (some ⟨tb, 0, none⟩) m m, .bool S.stops, .int .i64 S.left, .int .i64 S.wr, .int .i64 S.fl] := hOz
                have hrd : WZ.drew.rangeAt sb (k * 64) (bytesV (crashRB R keep torn n k)) := (World.rangeAt_drew _ _ _ _).2 hrs
                have htd : WZ.drew.there lb (k * 64) 64 := (World.there_drew _ _ _ _).2 (there_part HT.out.last.there (by have := HT.out.ok.ll; rw [List.length_set, HSL.out] at this; show k * 64 + 64 ≤ S.last.length * 64; rw [this]; omega))
                have hne := HT.out.ne
                have hOc := hOd.kept hgc (fun e => hne.2.1 (Option.some.inj e))
                have hrc := range_of_block (hgc.block sb (show sb < WZ.drew.heap.size from HT.out.sure.lt) (fun e => hne.2.2.2.1 (Option.some.inj e))) hrd
                generalize S.dirty.getD k false = od at *
                generalize hbs : crashRB R keep torn n k = bs at *
                have HSZ := Lib.hid (show (bytesV bs).toArray.size = 64 by simp [bytesV_length, HC64.out])
                have HL := Lib.hid HC64.out
                clear hrs hOz hb hdl2 hgc hbs HT HTD HVZ
                go_wp2_with fail
                refine Pu.regionM [(0, false), (1, false), (2, false), (3, false), (4, false), (5, false), (6, false), (7, false), (8, false), (9, false), (10, false), (11, false), (12, false), (13, false), (14, false), (15, false), (16, false), (17, false), (18, true), (19, false), (20, true)] (fun V => Ob V x 98 #[.slice (some ⟨sb, 0, none⟩) m m, .slice (some ⟨lb, 0, none⟩) m m, .slice (some ⟨tb, 0, none⟩) m m, .bool S.stops, .int .i64 S.left, .int .i64 S.wr, .int .i64 S.fl] ∧ V.rangeAt sb (k * 64) (bytesV bs)) hmx (by kernel_rfl) (by kernel_rfl) (by kernel_rfl) ⟨hOd, hrd⟩ rfl ?_
                simp only [Pu.named, List.filterMap_cons, List.filterMap_nil, List.getElem?_toArray, List.getElem?_cons_succ, List.getElem?_cons_zero, Option.map_some]
                iterate 16 (first
                  | (refine Pu.WalkM.off (by rfl) ?_; simp only [Act.put, List.setIfInBounds_toArray, List.set_cons_succ, List.set_cons_zero])
                  | (apply Pu.WalkM.on (by rfl)
                     · intro V hV
                       obtain ⟨gO, gr⟩ := hV
                       have y0 := gO.cell (j := 0) (v := .slice (some ⟨sb, 0, none⟩) m m) rfl
                       have y1 := gO.cell (j := 1) (v := .slice (some ⟨lb, 0, none⟩) m m) rfl
                       have y2 := gO.cell (j := 2) (v := .slice (some ⟨tb, 0, none⟩) m m) rfl
                       go_wp2_with fail
                       refine ⟨rfl, ?_, rfl⟩
                       try simp only [Act.put, List.setIfInBounds_toArray, List.set_cons_succ, List.set_cons_zero]
                       rfl
                     simp only [Act.put, List.setIfInBounds_toArray, List.set_cons_succ, List.set_cons_zero]))
                apply Pu.WalkM.on (by rfl)
                · intro V hV
                  obtain ⟨gO, gr⟩ := hV
                  refine wpList_load_mid rfl 102 (.tmp 108) rfl sb (k * 64) rfl (bytesV bs) _ gr Try.underlying102 rfl (by rw [bytesV_length, HL.out]; kernel_rfl) ?_
                  go_wp2_with fail
                  refine ⟨rfl, ?_, rfl⟩
                  try simp only [Act.put, List.setIfInBounds_toArray, List.set_cons_succ, List.set_cons_zero]
                  rfl
                simp only [Act.put, List.setIfInBounds_toArray, List.set_cons_succ, List.set_cons_zero]
                iterate 1 (first
                  | (refine Pu.WalkM.off (by rfl) ?_; simp only [Act.put, List.setIfInBounds_toArray, List.set_cons_succ, List.set_cons_zero])
                  | (apply Pu.WalkM.on (by rfl)
                     · intro V hV
                       obtain ⟨gO, gr⟩ := hV
                       have y0 := gO.cell (j := 0) (v := .slice (some ⟨sb, 0, none⟩) m m) rfl
                       have y1 := gO.cell (j := 1) (v := .slice (some ⟨lb, 0, none⟩) m m) rfl
                       have y2 := gO.cell (j := 2) (v := .slice (some ⟨tb, 0, none⟩) m m) rfl
                       go_wp2_with fail
                       refine ⟨rfl, ?_, rfl⟩
                       try simp only [Act.put, List.setIfInBounds_toArray, List.set_cons_succ, List.set_cons_zero]
                       rfl
                     simp only [Act.put, List.setIfInBounds_toArray, List.set_cons_succ, List.set_cons_zero]))
                generalize hWd : WZ.drew = WD at *
                clear hWd
                refine Pu.WalkM.make (by rfl) ?_
                intro V hV
                rw [hV]
                clear hV V
                refine wpList_store_mid rfl 102 (.tmp 110) (.tmp 109) rfl lb (k * 64) (bytesV bs).toArray rfl rfl (by rw [HSZ.out]; exact htd) (by rw [HSZ.out]; kernel_rfl) (all_oneCell_toArray (bytesV_one bs)) ?_
                have eT : (bytesV bs).toArray.toList = bytesV bs := by simp
                rw [eT]
                clear eT
                refine ⟨rfl, undef, _, (fun V => V = WD.setCells lb (k * 64) (bytesV bs)), rfl, rfl, (fun V h => by rw [h]; exact ⟨hOc, hrc⟩), (.inr (fun _ h => h)), ?_⟩
                simp only [Act.put]
                generalize hWe : WD.setCells lb (k * 64) (bytesV bs) = WE at *
                clear hWe
                iterate 1 (first
                  | (refine Pu.WalkM.off (by rfl) ?_; simp only [Act.put, List.setIfInBounds_toArray, List.set_cons_succ, List.set_cons_zero])
                  | (apply Pu.WalkM.on (by rfl)
                     · intro V hV
                       obtain ⟨gO, gr⟩ := hV
                       have y0 := gO.cell (j := 0) (v := .slice (some ⟨sb, 0, none⟩) m m) rfl
                       have y1 := gO.cell (j := 1) (v := .slice (some ⟨lb, 0, none⟩) m m) rfl
                       have y2 := gO.cell (j := 2) (v := .slice (some ⟨tb, 0, none⟩) m m) rfl
                       go_wp2_with fail
                       refine ⟨rfl, ?_, rfl⟩
                       try simp only [Act.put, List.setIfInBounds_toArray, List.set_cons_succ, List.set_cons_zero]
                       rfl
                     simp only [Act.put, List.setIfInBounds_toArray, List.set_cons_succ, List.set_cons_zero]))
                refine Pu.WalkM.make (by rfl) ?_
                intro V hV
                rw [hV]
                clear hV V
                go_wp2_with fail
                refine ⟨rfl, undef, (fun _ => True), (fun V => V = WE.setCell ⟨tb, k, none⟩ (.bool false)), rfl, rfl, (fun _ _ => trivial), (.inl (by kernel_rfl)), Pu.WalkM.nil ?_⟩
                intro V hV
                rw [hV]
                clear hV V
                simp only [Act.put]
                clear hc2 hf2 hOd hrd htd hOc hrc
                go_wp2
                exact ⟨⟨k + 1, by omega, by go_num, HT2.out, HVS.out⟩, by simp [intOf]; omega⟩
    · obtain rfl : k = m := by omega
      have hd : decide ((k : Int) < (k : Int)) = false := by simp
      have hd' : decide (k < k) = false := by simp
      have hfx := hO.frozen 3
      have hst := hW.ob.set 3 (.bool false)
      have hg3 := grownBy_set wo x 3 (.bool false)
      have hSA := HALL.out rfl
      subst hSA
      have hok3 : OkR { R with sure := (List.range R.sure.length).map (crashRB R keep torn n), last := (List.range R.sure.length).map (crashRB R keep torn n), dirty := List.replicate R.sure.length false, stops := false } := by
        have := hW.ok
        exact ⟨this.sure, this.last, this.ll, this.dl, this.left, this.wr, this.fl⟩
      have HW3 := Lib.hid (hW.own (R' := { R with sure := (List.range R.sure.length).map (crashRB R keep torn n), last := (List.range R.sure.length).map (crashRB R keep torn n), dirty := List.replicate R.sure.length false, stops := false }) hg3 hst rfl rfl rfl hok3)
      have HV3 := Lib.hid (hV.trans (Rev.of (sb := sb) (lb := lb) (tb := tb) hg3 (.inl rfl)))
      have yy3 := hO.cell (j := 3) (v := .bool R.stops) rfl
      clear hW hV hO hst hg3 hok3
      go_wp2
      go_ret
      exact ⟨rfl, HW3.out, HV3.out⟩
theorem rcrash_calls (h : RvAt w base x sb lb tb R) (keep : List Int) (kv : Value) (lo B : Nat) (hK : IntsAt w lo B kv keep) (hF : ∀ i, lo ≤ i → i < B → i < w.heap.size ∧ i ≠ x ∧ i ≠ sb ∧ i ≠ lb ∧ i ≠ tb) (torn n : Int) :
    Calls Try.prog 32 #[.pointer (some ⟨x, 0, none⟩), kv, .int .i64 torn, .int .i64 n] w fun e w' => e = .returned (.int .i64 (crashR R keep torn n).2) ∧ RvAt w' base x sb lb tb (crashR R keep torn n).1 ∧ Rev x sb lb tb w w' := by
  unfold crashR
  by_cases hn : n < 0 ∨ 64 < n
  · rw [if_pos hn]
    refine (rcrash_arg kv torn n hn w x).mono ?_
    rintro e W ⟨rfl, rfl⟩
    exact ⟨rfl, h, Rev.refl _⟩
  · obtain ⟨k, rfl⟩ := Int.eq_ofNat_of_zero_le (show 0 ≤ n by omega)
    rw [if_neg hn]
    exact rcrash_good h keep kv lo B hK hF torn k (by omega)
end
end Se
end Go.Proofs.Yteiniahikhiadaa
