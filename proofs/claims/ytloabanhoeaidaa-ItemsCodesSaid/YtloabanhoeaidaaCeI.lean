/-
  cells of numbers: the first number of bytes, as the document reads it.
-/
import Derived.Test.YtloabanhoeaidaaCeE
namespace Go.Proofs.Ytloabanhoeaidaa
open Go.RowKit
namespace Ce

def refR (b : List UInt8) : Int × Int := match firstC b with | some (n, k) => (n, (k : Int)) | none => (0, 0)
/-- the number of some bytes -/
def refV (neg : Bool) (u : Nat) : Int := if neg then -1 - u else u
theorem cons_byte {a b : Nat} {x y : List UInt8} {h : UInt8} (ha : a < 256) (hb : h.toNat = b) (hne : a ≠ b) : UInt8.ofNat a :: x ≠ h :: y := by
  intro e
  injection e with e _
  have := congrArg UInt8.toNat e
  rw [toNat_ofNat ha] at this
  omega
/-- heads that are none -/
theorem refR_head {h : UInt8} {t : List UInt8} (h1 : ¬ h.toNat < 128) (h2 : ¬ (129 ≤ h.toNat ∧ h.toNat ≤ 136)) (h3 : ¬ (144 ≤ h.toNat ∧ h.toNat ≤ 152)) : refR (h :: t) = (0, 0) := by
  unfold refR
  rw [firstC_cons, if_neg h1]
  by_cases hz : 8 < sizeOf_ h ∨ t.length < sizeOf_ h
  · rw [if_pos hz]
  · rw [if_neg hz, if_neg]
    have e : h.toNat = 128 := by
      unfold sizeOf_ at hz
      split at hz <;> omega
    have hs : sizeOf_ h = 0 := by unfold sizeOf_; rw [if_neg (by omega)]; omega
    have hv : valOf h (t.take (sizeOf_ h)) = 0 := by
      unfold valOf
      rw [if_neg (by omega), hs]
      rfl
    rw [hv, show numC 0 = [UInt8.ofNat 0] from rfl]
    exact cons_byte (by omega) e (by omega)
theorem refR_small {h : UInt8} {t : List UInt8} (h1 : h.toNat < 128) : refR (h :: t) = ((h.toNat : Int), 1) := by
  unfold refR; rw [firstC_cons, if_pos h1]; rfl
theorem refR_short {h : UInt8} {t : List UInt8} {z : Nat} (h1 : ¬ h.toNat < 128) (hz : sizeOf_ h = z) (h2 : t.length < z) : refR (h :: t) = (0, 0) := by
  unfold refR; rw [firstC_cons, if_neg h1, hz, if_pos (.inr h2)]
/-- heads of numbers -/
theorem refR_num {h : UInt8} {t : List UInt8} {z : Nat} {neg : Bool} (h1 : ¬ h.toNat < 128) (hz : sizeOf_ h = z) (h8 : z ≤ 8) (h2 : z ≤ t.length) (hn : decide (144 ≤ h.toNat) = neg) :
    refR (h :: t) = if be (t.take z) < 9223372036854775808 then (if numC (refV neg (be (t.take z))) = h :: t.take z then (refV neg (be (t.take z)), ((1 + z : Nat) : Int)) else (0, 0)) else (0, 0) := by
  have hb := be_take_lt t h8
  unfold refR
  rw [firstC_cons, if_neg h1, hz, if_neg (by omega)]
  have hv : valOf h (t.take z) = toI (if neg = true then flip (be (t.take z)) else be (t.take z)) := by
    unfold valOf
    subst hn
    by_cases h4 : 144 ≤ h.toNat
    · rw [if_pos h4, decide_eq_true h4, if_pos rfl]
    · rw [if_neg h4, decide_eq_false h4, if_neg (by simp)]
  rw [hv]
  generalize be (t.take z) = u at *
  by_cases hu : u < 9223372036854775808
  · rw [if_pos hu]
    have e : toI (if neg = true then flip u else u) = refV neg u := by
      unfold toI refV flip
      cases neg
      · simp; omega
      · simp; omega
    rw [e]
    by_cases hq : numC (refV neg u) = h :: t.take z
    · rw [if_pos hq, if_pos hq]
    · rw [if_neg hq, if_neg hq]
  · rw [if_neg hu, if_neg]
    clear hz
    cases neg with
    | false =>
      have e : toI (if false = true then flip u else u) = (u : Int) - 18446744073709551616 := by unfold toI; simp; omega
      rw [e, numC_neg (by omega)]
      have h4 : ¬ 144 ≤ h.toNat := of_decide_eq_false hn
      have := dig_len8 (-1 - ((u : Int) - 18446744073709551616)).toNat
      exact cons_byte (by omega) rfl (by omega)
    | true =>
      have e : toI (if true = true then flip u else u) = (18446744073709551615 - u : Int) := by unfold toI flip; simp; omega
      rw [e]
      have h4 : 144 ≤ h.toNat := of_decide_eq_true hn
      by_cases hs : (18446744073709551615 - u : Int) < 128
      · rw [numC_small ⟨by omega, hs⟩]
        exact cons_byte (by omega) rfl (by omega)
      · rw [numC_big (by omega)]
        have hd := dig_len8 (18446744073709551615 - u : Int).toNat
        exact cons_byte (by omega) rfl (by omega)

set_option maxRecDepth 100000 in
set_option maxHeartbeats 8000000 in
theorem reffirst_calls (b : List UInt8) (v : Value) (w : World) (hI : BytesAt w 0 w.heap.size v b) :
    Calls Try.prog 71 #[v] w fun e w' => e = .returned (.tuple #[.int .i64 (refR b).1, .int .i64 (refR b).2]) ∧ Below w.heap.size w w' := by
  obtain ⟨A, c, rfl, hc1, hc2⟩ := hI.form
  unfold maxLen at hc2
  match b with
  | [] =>
    have hR : refR [] = (0, 0) := rfl
    rw [hR]
    clear hR
    simp only [List.length_nil]
    go_enter Try.func71, Try.ntmps71
    go_wp2
    go_ret2
    exact ⟨rfl, Below.refl _ _⟩
  | h :: t =>
    have hlen : (h :: t).length = t.length + 1 := by simp
    obtain ⟨p, o, rfl, -, hp, g0⟩ := hI.cellAt (j := 0) (by simp)
    have hg : ∀ j (hj : j < t.length), w.cell? ⟨p, o + (1 + j), none⟩ = some (.int .u8 ((t[j]).toNat : Int)) := fun j hj => by
      obtain ⟨p', o', e, -, -, g1⟩ := hI.cellAt (j := j + 1) (by simp; omega)
      cases e
      rw [List.getElem_cons_succ] at g1
      rw [← g1]
      congr 2
      omega
    have HG := Lib.hid hg
    clear hg
    simp only [List.getElem_cons_zero, Nat.add_zero] at g0
    rw [hlen] at hI hc1 ⊢
    clear hlen
    have hlz : (((t.length + 1 : Nat) : Int) == 0) = false := by simp; omega
    have hl1 : 0 < t.length + 1 := by omega
    have hh := h.toNat_lt
    by_cases h1 : h.toNat < 128
    · have HR := Lib.hid (refR_small (t := t) h1)
      have hd : decide ((h.toNat : Int) < 128) = true := by simp; omega
      clear h1
      go_enter Try.func71, Try.ntmps71
      go_wp2
      go_ret2
      rw [HR.out]
      exact ⟨rfl, Below.refl _ _⟩
    · have hd : decide ((h.toNat : Int) < 128) = false := by simp; omega
      by_cases h2 : 129 ≤ h.toNat ∧ h.toNat ≤ 136
      · obtain ⟨h2, h3⟩ := h2
        have hd2 : decide ((h.toNat : Int) ≥ 129) = true := by simp; omega
        have hd3 : decide ((h.toNat : Int) ≤ 136) = true := by simp; omega
        obtain ⟨sz, hsz⟩ : ∃ sz : Nat, (h.toNat : Int) - 128 = (sz : Int) := ⟨h.toNat - 128, by omega⟩
        have hS : sizeOf_ h = sz := by unfold sizeOf_; rw [if_neg (by omega)]; omega
        have hN : decide (144 ≤ h.toNat) = false := by simp; omega
        have h8 : sz ≤ 8 := by omega
        clear h2 h3
        by_cases hshort : t.length < sz
        · have HR := Lib.hid (refR_short h1 hS hshort)
          have hds : decide (t.length + 1 < 1 + sz) = true := by simp; omega
          have hds2 : decide (((t.length + 1 : Nat) : Int) < 1 + (sz : Int)) = true := by simp; omega
          have hds3 : decide ((t.length : Int) + 1 < 1 + (sz : Int)) = true := by simp; omega
          clear hshort h1 hS hN
          go_enter Try.func71, Try.ntmps71
          go_wp2
          go_ret2
          rw [HR.out]
          exact ⟨rfl, Below.refl _ _⟩
        · have hst : sz ≤ t.length := by omega
          have HR := Lib.hid (refR_num h1 hS h8 hst hN)
          have hds : decide (t.length + 1 < 1 + sz) = false := by simp; omega
          have hds2 : decide (((t.length + 1 : Nat) : Int) < 1 + (sz : Int)) = false := by simp; omega
          have hds3 : decide ((t.length : Int) + 1 < 1 + (sz : Int)) = false := by simp; omega
          clear hshort h1 hS hN
          go_enter Try.func71, Try.ntmps71
          go_wp2
          go_loop [6, 7] (fun u i => ∃ j : Nat, j ≤ sz ∧ i = .int .i64 j ∧ u = .int .u64 (be (t.take j))) (fun _ i => sz - (intOf i).toNat)
          case atStart => exact ⟨0, by omega, rfl, rfl⟩
          case round =>
            obtain ⟨j, hj, rfl, rfl⟩ := hrel
            by_cases hjs : j < sz
            · have hcell := HG.out j (by omega)
              have hbl := be_lt _ (t.take j) rfl
              have hlj : (t.take j).length = j := by rw [List.length_take]; omega
              rw [hlj] at hbl
              have hpow : 256 ^ j ≤ 256 ^ 7 := Nat.pow_le_pow_right (by omega) (by omega)
              have hub : be (t.take j) < 72057594037927936 := Nat.lt_of_lt_of_le hbl hpow
              clear hpow hbl hlj
              have hqq : (t[j]).toNat < 256 := (t[j]).toNat_lt
              have hdj : decide (j < sz) = true := by simpa using hjs
              have HS := Lib.hid (show be (t.take (j + 1)) = be (t.take j) * 256 + (t[j]).toNat by rw [List.take_succ_eq_append_getElem (by omega), be_snoc])
              generalize be (t.take j) = u at *
              generalize (t[j]).toNat = q at *
              have hu0 : (0 : Int) ≤ (u : Int) := by omega
              have hu1 : (u : Int) < 72057594037927936 := by omega
              clear hub
              have hq0 : (0 : Int) ≤ (q : Int) := by omega
              have hq1 : (q : Int) < 256 := by omega
              have k1 : (0 : Int) ≤ 1 + (j : Int) := by omega
              have k2 : 1 + (j : Int) < ((t.length + 1 : Nat) : Int) := by omega
              go_wp2
              go_round
              case rel => exact ⟨j + 1, by omega, by go_num, by rw [HS.out, Int.natCast_add, Int.natCast_mul]; rfl⟩
              case measure => simp [intOf]; omega
            · obtain rfl : j = sz := by omega
              have hub := be_take_lt t h8
              have hdj : decide (j < j) = false := by simp
              clear HG
              have hpre := fun (W : World) (hW : Below w.heap.size w W) => (hI.mono hW hW.size).upTo (k := 1 + j) (by simp; omega)
              have htk : (h :: t).take (1 + j) = h :: t.take j := by rw [Nat.add_comm, List.take_succ_cons]
              rw [htk] at hpre
              have HPRE := Lib.hid hpre
              clear hpre htk
              by_cases hbigu : be (t.take j) < 9223372036854775808
              · have HR2 := Lib.hid (HR.out.trans (if_pos hbigu))
                have hd9 : decide (9223372036854775808 ≤ be (t.take j)) = false := by simp; omega
                have hd10 : decide (((be (t.take j) : Nat) : Int) ≥ 9223372036854775808) = false := by simp; omega
                generalize be (t.take j) = U at *
                have hw64 : wrap64 (U : Int) = (U : Int) := by unfold wrap64; omega
                have hN : -9223372036854775808 ≤ refV false U ∧ refV false U ≤ 9223372036854775807 := by unfold refV; simp; omega
                have HV := Lib.hid (show refV false U = (U : Int) by unfold refV; simp)
                have cN := Lib.hid (fun W => refnum_calls (refV false U) W hN.1 hN.2)
                rw [HV.out] at cN
                have hv0 : -9223372036854775808 ≤ (-1 - (U : Int)) := by omega
                have hv1 : (-1 - (U : Int)) ≤ 9223372036854775807 := by omega
                go_wp2_with fail
                refine (cN.out _).mono ?_
                rintro e W1 ⟨⟨v1, rfl, hv1⟩, hb1⟩
                obtain ⟨A1, c1, rfl, -⟩ := hv1.form
                have hB1 := hb1
                obtain ⟨m, hm⟩ : ∃ m : Nat, m = 1 + j := ⟨_, rfl⟩
                have hsum : IntKind.i64.wrap (1 + (j : Int)) = (m : Int) := (IntWalk.i64_in _ (by omega)).trans (by omega)
                have k3 : (0 : Int) ≤ (m : Int) := by omega
                have k4 : (m : Int) ≤ (c : Int) := by omega
                have HM1 := Lib.hid hm
                rw [← hm] at HPRE
                clear hm
                have hcA := run_string_at (dst := 9) Try.underlying41 Try.underlying5 Try.underlying9 (Sl.below hv1 ((Below.refl _ W1).drew))
                have hcB := run_string_at (dst := 9) Try.underlying41 Try.underlying5 Try.underlying9 (HPRE.out _ (hB1.drew))
                by_cases hq : numC (U : Int) = h :: t.take j
                · have HR3 := Lib.hid (show refR (h :: t) = ((U : Int), ((1 + j : Nat) : Int)) by rw [HR2.out, HV.out, if_pos hq])
                  have hlq : (numC (U : Int)).length = j + 1 := by rw [hq, List.length_cons, List.length_take]; omega
                  rw [hlq] at hcA hv1 ⊢
                  rw [hq] at hcA
                  clear hq
                  go_wp2_with fail
                  go_region_with fail
                  all_goals
                    clear hsum
                    go_wp2
                    go_ret2
                    rw [HR3.out]
                    exact ⟨rfl, hB1.drew⟩
                · have HR3 := Lib.hid (show refR (h :: t) = (0, 0) by rw [HR2.out, HV.out, if_neg hq])
                  obtain ⟨s1, hs1⟩ : ∃ s1 : ByteArray, s1 = ⟨(numC (U : Int)).toArray⟩ := ⟨_, rfl⟩
                  obtain ⟨s2, hs2⟩ : ∃ s2 : ByteArray, s2 = ⟨(h :: t.take j).toArray⟩ := ⟨_, rfl⟩
                  have hne : ¬ s1.toList = s2.toList := by
                    rw [ByteArray.toList_eq, ByteArray.toList_eq, hs1, hs2]
                    exact hq
                  have hnb : (s1.toList == s2.toList) = false := by simpa using hne
                  rw [← hs1] at hcA
                  rw [← hs2] at hcB
                  clear hs1 hs2 hq
                  go_wp2_with fail
                  go_region_with fail
                  all_goals
                    clear hsum
                    go_wp2
                    go_ret2
                    rw [HR3.out]
                    exact ⟨rfl, hB1.drew⟩
              · have HR2 := Lib.hid (HR.out.trans (if_neg hbigu))
                have hd9 : decide (9223372036854775808 ≤ be (t.take j)) = true := by simp; omega
                have hd10 : decide (((be (t.take j) : Nat) : Int) ≥ 9223372036854775808) = true := by simp; omega
                generalize be (t.take j) = U at *
                go_wp2
                go_ret2
                rw [HR2.out]
                exact ⟨rfl, Below.refl _ _⟩
      · by_cases h3 : 144 ≤ h.toNat ∧ h.toNat ≤ 152
        · obtain ⟨h3, h4⟩ := h3
          have hd2 : decide ((h.toNat : Int) ≥ 129) = true := by simp; omega
          have hd3 : decide ((h.toNat : Int) ≤ 136) = false := by simp; omega
          have hd4 : decide ((h.toNat : Int) ≥ 144) = true := by simp; omega
          have hd5 : decide ((h.toNat : Int) ≤ 152) = true := by simp; omega
          obtain ⟨sz, hsz⟩ : ∃ sz : Nat, (h.toNat : Int) - 144 = (sz : Int) := ⟨h.toNat - 144, by omega⟩
          have hS : sizeOf_ h = sz := by unfold sizeOf_; rw [if_pos (by omega)]; omega
          have hN : decide (144 ≤ h.toNat) = true := by simp; omega
          have h8 : sz ≤ 8 := by omega
          clear h2 h3
          by_cases hshort : t.length < sz
          · have HR := Lib.hid (refR_short h1 hS hshort)
            have hds : decide (t.length + 1 < 1 + sz) = true := by simp; omega
            have hds2 : decide (((t.length + 1 : Nat) : Int) < 1 + (sz : Int)) = true := by simp; omega
            have hds3 : decide ((t.length : Int) + 1 < 1 + (sz : Int)) = true := by simp; omega
            clear hshort h1 hS hN
            go_enter Try.func71, Try.ntmps71
            go_wp2
            go_ret2
            rw [HR.out]
            exact ⟨rfl, Below.refl _ _⟩
          · have hst : sz ≤ t.length := by omega
            have HR := Lib.hid (refR_num h1 hS h8 hst hN)
            have hds : decide (t.length + 1 < 1 + sz) = false := by simp; omega
            have hds2 : decide (((t.length + 1 : Nat) : Int) < 1 + (sz : Int)) = false := by simp; omega
            have hds3 : decide ((t.length : Int) + 1 < 1 + (sz : Int)) = false := by simp; omega
            clear hshort h1 hS hN
            go_enter Try.func71, Try.ntmps71
            go_wp2
            go_loop [6, 7] (fun u i => ∃ j : Nat, j ≤ sz ∧ i = .int .i64 j ∧ u = .int .u64 (be (t.take j))) (fun _ i => sz - (intOf i).toNat)
            case atStart => exact ⟨0, by omega, rfl, rfl⟩
            case round =>
              obtain ⟨j, hj, rfl, rfl⟩ := hrel
              by_cases hjs : j < sz
              · have hcell := HG.out j (by omega)
                have hbl := be_lt _ (t.take j) rfl
                have hlj : (t.take j).length = j := by rw [List.length_take]; omega
                rw [hlj] at hbl
                have hpow : 256 ^ j ≤ 256 ^ 7 := Nat.pow_le_pow_right (by omega) (by omega)
                have hub : be (t.take j) < 72057594037927936 := Nat.lt_of_lt_of_le hbl hpow
                clear hpow hbl hlj
                have hqq : (t[j]).toNat < 256 := (t[j]).toNat_lt
                have hdj : decide (j < sz) = true := by simpa using hjs
                have HS := Lib.hid (show be (t.take (j + 1)) = be (t.take j) * 256 + (t[j]).toNat by rw [List.take_succ_eq_append_getElem (by omega), be_snoc])
                generalize be (t.take j) = u at *
                generalize (t[j]).toNat = q at *
                have hu0 : (0 : Int) ≤ (u : Int) := by omega
                have hu1 : (u : Int) < 72057594037927936 := by omega
                clear hub
                have hq0 : (0 : Int) ≤ (q : Int) := by omega
                have hq1 : (q : Int) < 256 := by omega
                have k1 : (0 : Int) ≤ 1 + (j : Int) := by omega
                have k2 : 1 + (j : Int) < ((t.length + 1 : Nat) : Int) := by omega
                go_wp2
                go_round
                case rel => exact ⟨j + 1, by omega, by go_num, by rw [HS.out, Int.natCast_add, Int.natCast_mul]; rfl⟩
                case measure => simp [intOf]; omega
              · obtain rfl : j = sz := by omega
                have hub := be_take_lt t h8
                have hdj : decide (j < j) = false := by simp
                clear HG
                have hpre := fun (W : World) (hW : Below w.heap.size w W) => (hI.mono hW hW.size).upTo (k := 1 + j) (by simp; omega)
                have htk : (h :: t).take (1 + j) = h :: t.take j := by rw [Nat.add_comm, List.take_succ_cons]
                rw [htk] at hpre
                have HPRE := Lib.hid hpre
                clear hpre htk
                by_cases hbigu : be (t.take j) < 9223372036854775808
                · have HR2 := Lib.hid (HR.out.trans (if_pos hbigu))
                  have hd9 : decide (9223372036854775808 ≤ be (t.take j)) = false := by simp; omega
                  have hd10 : decide (((be (t.take j) : Nat) : Int) ≥ 9223372036854775808) = false := by simp; omega
                  generalize be (t.take j) = U at *
                  have hw64 : wrap64 (U : Int) = (U : Int) := by unfold wrap64; omega
                  have hN : -9223372036854775808 ≤ refV true U ∧ refV true U ≤ 9223372036854775807 := by unfold refV; simp; omega
                  have HV := Lib.hid (show refV true U = (-1 - (U : Int)) by unfold refV; simp)
                  have cN := Lib.hid (fun W => refnum_calls (refV true U) W hN.1 hN.2)
                  rw [HV.out] at cN
                  have hv0 : -9223372036854775808 ≤ (-1 - (U : Int)) := by omega
                  have hv1 : (-1 - (U : Int)) ≤ 9223372036854775807 := by omega
                  go_wp2_with fail
                  refine (cN.out _).mono ?_
                  rintro e W1 ⟨⟨v1, rfl, hv1⟩, hb1⟩
                  obtain ⟨A1, c1, rfl, -⟩ := hv1.form
                  have hB1 := hb1
                  obtain ⟨m, hm⟩ : ∃ m : Nat, m = 1 + j := ⟨_, rfl⟩
                  have hsum : IntKind.i64.wrap (1 + (j : Int)) = (m : Int) := (IntWalk.i64_in _ (by omega)).trans (by omega)
                  have k3 : (0 : Int) ≤ (m : Int) := by omega
                  have k4 : (m : Int) ≤ (c : Int) := by omega
                  have HM1 := Lib.hid hm
                  rw [← hm] at HPRE
                  clear hm
                  have hcA := run_string_at (dst := 9) Try.underlying41 Try.underlying5 Try.underlying9 (Sl.below hv1 ((Below.refl _ W1).drew))
                  have hcB := run_string_at (dst := 9) Try.underlying41 Try.underlying5 Try.underlying9 (HPRE.out _ (hB1.drew))
                  by_cases hq : numC (-1 - (U : Int)) = h :: t.take j
                  · have HR3 := Lib.hid (show refR (h :: t) = ((-1 - (U : Int)), ((1 + j : Nat) : Int)) by rw [HR2.out, HV.out, if_pos hq])
                    have hlq : (numC (-1 - (U : Int))).length = j + 1 := by rw [hq, List.length_cons, List.length_take]; omega
                    rw [hlq] at hcA hv1 ⊢
                    rw [hq] at hcA
                    clear hq
                    go_wp2_with fail
                    go_region_with fail
                    all_goals
                      clear hsum
                      go_wp2
                      go_ret2
                      rw [HR3.out]
                      exact ⟨rfl, hB1.drew⟩
                  · have HR3 := Lib.hid (show refR (h :: t) = (0, 0) by rw [HR2.out, HV.out, if_neg hq])
                    obtain ⟨s1, hs1⟩ : ∃ s1 : ByteArray, s1 = ⟨(numC (-1 - (U : Int))).toArray⟩ := ⟨_, rfl⟩
                    obtain ⟨s2, hs2⟩ : ∃ s2 : ByteArray, s2 = ⟨(h :: t.take j).toArray⟩ := ⟨_, rfl⟩
                    have hne : ¬ s1.toList = s2.toList := by
                      rw [ByteArray.toList_eq, ByteArray.toList_eq, hs1, hs2]
                      exact hq
                    have hnb : (s1.toList == s2.toList) = false := by simpa using hne
                    rw [← hs1] at hcA
                    rw [← hs2] at hcB
                    clear hs1 hs2 hq
                    go_wp2_with fail
                    go_region_with fail
                    all_goals
                      clear hsum
                      go_wp2
                      go_ret2
                      rw [HR3.out]
                      exact ⟨rfl, hB1.drew⟩
                · have HR2 := Lib.hid (HR.out.trans (if_neg hbigu))
                  have hd9 : decide (9223372036854775808 ≤ be (t.take j)) = true := by simp; omega
                  have hd10 : decide (((be (t.take j) : Nat) : Int) ≥ 9223372036854775808) = true := by simp; omega
                  generalize be (t.take j) = U at *
                  go_wp2
                  go_ret2
                  rw [HR2.out]
                  exact ⟨rfl, Below.refl _ _⟩
        · have HR := Lib.hid (refR_head (t := t) h1 h2 h3)
          have hcs : (decide ((h.toNat : Int) ≥ 129) = false ∧ decide ((h.toNat : Int) ≥ 144) = false) ∨ (decide ((h.toNat : Int) ≥ 129) = true ∧ decide ((h.toNat : Int) ≤ 136) = false ∧ ((decide ((h.toNat : Int) ≥ 144) = true ∧ decide ((h.toNat : Int) ≤ 152) = false) ∨ decide ((h.toNat : Int) ≥ 144) = false)) := by
            simp only [decide_eq_true_eq, decide_eq_false_iff_not]
            omega
          clear h1 h2 h3
          rcases hcs with ⟨e1, e2⟩ | ⟨e1, e2, ⟨e3, e4⟩ | e3⟩
          all_goals
            go_enter Try.func71, Try.ntmps71
            go_wp2
            go_ret2
            rw [HR.out]
            exact ⟨rfl, Below.refl _ _⟩
end Ce
end Go.Proofs.Ytloabanhoeaidaa
