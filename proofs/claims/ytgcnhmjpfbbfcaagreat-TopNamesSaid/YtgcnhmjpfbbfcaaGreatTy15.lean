/-
  part of the proof of TopNames.
-/
import Derived.Test.YtgcnhmjpfbbfcaaGreatTy14
import Derived.Shelf.Bytes.SlSmallAll
set_option linter.unusedVariables false
set_option linter.unusedSimpArgs false
set_option maxRecDepth 100000
set_option maxHeartbeats 8000000
namespace Go.Proofs.YtgcnhmjpfbbfcaaGreat
namespace Ce
section
open Go.RowKit
theorem run_string_at {P : Program} {w : World} {src dst e : TypeId} (hs : P.underlying src = some (.slice e)) (he : P.underlying e = some (.int .u8)) (hd : P.underlying dst = some .string) {lo B n c : Nat} {A : Option Addr} {l : List UInt8}
   (h : BytesAt w lo B (.slice A n c) l) : (convert src dst (.slice A n c)).run P w = .ok (.string ⟨l.toArray⟩) w := by
 obtain ⟨A', c', e', h1, h2, h3⟩ := h.at_; have hl : n = l.length := by cases e'; rfl
 cases e'
 match l, hl with
 | [], _ =>
   rw [run_convert_bytes_string w src dst e A _ c hs he hd]
   cases A <;> simp [Conv.bytesToString] <;> rfl
 | x :: r, _ =>
   obtain ⟨b, o, rfl, _, _, hc⟩ := h3 (by simp); refine run_convert_bytes_back w src dst e ⟨b, o, none⟩ c (x :: r) hs he hd fun j hj => ?_
   have e1 : (⟨b, o, none⟩ : Addr).add j = ⟨b, o + j, none⟩ := by unfold Addr.add; split <;> simp_all
   rw [e1, hc j (by omega)]; unfold bytesV; rw [List.getElem?_map, List.getElem?_eq_getElem hj]
   rfl
theorem or_byte {u : Nat} {c : UInt8} (hu : u < 72057594037927936) : bits .or .u64 ((u : Int) * 256) (c.toNat : Int) = ((u * 256 + c.toNat : Nat) : Int) := by
 have hc := c.toNat_lt; have e : (u : Int) * 256 = ((u * 256 : Nat) : Int) := by omega
 rw [e, bits_or_u64_nat _ _ (by omega) (by omega)]
 congr 1
 have := Nat.two_pow_add_eq_or_of_lt (i := 8) (b := c.toNat) (by omega) u; rw [show (2 : Nat) ^ 8 = 256 by rfl] at this; rw [Nat.mul_comm u 256]; exact this.symm
theorem BytesAt.upTo {w : World} {lo B n k c : Nat} {A : Option Addr} {l : List UInt8} (h : BytesAt w lo B (.slice A n c) l) (hk : k ≤ l.length) : BytesAt w lo B (.slice A k c) (l.take k) := by
 have hn : n = l.length := by
   obtain ⟨A', c', e, _⟩ := h.at_
   cases e; rfl
 subst hn; have := Sl.upTo (k := k) h hk; unfold BytesAt; have e : (l.take k).length = k := by rw [List.length_take]; omega
 rw [e, show bytesV (l.take k) = (bytesV l).take (k * 1) by simp [bytesV, List.map_take]]; exact this
def firstR (b : List UInt8) : Int × Int × Int := match firstC b with | some (n, k) => (n, (k : Int), 0) | none => (0, 0, 10)
theorem first_calls (b : List UInt8) (v : Value) (w : World) (hI : BytesAt w 0 w.heap.size v b) :
   Calls Tryz.prog 114 #[v] w fun e w' => e = .returned (.tuple #[vI (firstR b).1, vI (firstR b).2.1, vI (firstR b).2.2]) ∧ Below w.heap.size w w' := by
 obtain ⟨A, c, rfl, hc1, hc2⟩ := hI.form; unfold maxLen at hc2
 match b with
 | [] =>
   have hR : firstR [] = (0, 0, 10) := rfl; rw [hR]; clear hR; simp only [List.length_nil]
   go_enter Tryz.func114, Tryz.ntmps114
   go_wp2
   go_ret3
   exact ⟨rfl, Below.refl _ _⟩
 | h :: t =>
   have hlen : (h :: t).length = t.length + 1 := by simp
   obtain ⟨p, o, rfl, -, hp, g0⟩ := hI.cellAt (j := 0) (by simp)
   have hg : ∀ j (hj : j < t.length), w.cell? ⟨p, o + 1 + j, none⟩ = some (.int .u8 ((t[j]).toNat : Int)) := fun j hj => by
     obtain ⟨p', o', e, -, -, g1⟩ := hI.cellAt (j := j + 1) (by simp; omega)
     cases e
     rw [List.getElem_cons_succ] at g1; rw [← g1]
     congr 2
     omega
   have HG := hdd hg; clear hg; simp only [List.getElem_cons_zero, Nat.add_zero] at g0; rw [hlen] at hI hc1 ⊢; clear hlen; have hlz : (((t.length + 1 : Nat) : Int) == 0) = false := by simp; omega
   have hl1 : 0 < t.length + 1 := by omega
   have hh := h.toNat_lt
   by_cases h1 : h.toNat < 128
   · have HR := hdd (show firstR (h :: t) = ((h.toNat : Int), 1, 0) by unfold firstR; rw [firstC_cons, if_pos h1]; rfl)
     have hd : decide ((h.toNat : Int) < 128) = true := by simp; omega
     clear h1
     go_enter Tryz.func114, Tryz.ntmps114
     go_wp2
     go_ret3
     rw [HR.out]; exact ⟨rfl, Below.refl _ _⟩
   · have hd : decide ((h.toNat : Int) < 128) = false := by simp; omega
     by_cases h2 : 144 ≤ h.toNat
     · have hd2 : decide ((h.toNat : Int) ≥ 144) = true := by simp; omega
       obtain ⟨sz, hsz⟩ : ∃ sz : Nat, (h.toNat : Int) - 144 = (sz : Int) := ⟨h.toNat - 144, by omega⟩; have hS : sizeOf_ h = sz := by unfold sizeOf_; rw [if_pos h2]; omega
       have hV : valOf h (t.take sz) = toI (flip (be (t.take sz))) := by unfold valOf; rw [if_pos h2]
       clear h2
       by_cases hbig : 8 < sz ∨ t.length < sz
       · have HR := hdd (show firstR (h :: t) = (0, 0, 10) by unfold firstR; rw [firstC_cons, if_neg h1, hS, if_pos hbig])
         clear h1 hS hV
         have hcs : decide ((sz : Int) > 8) = true ∨ (decide ((sz : Int) > 8) = false ∧ decide ((sz : Int) ≥ (t.length : Int) + 1) = true) := by
           by_cases h8 : 8 < sz
           · exact .inl (by simp; omega)
           · exact .inr ⟨by simp; omega, by simp; omega⟩
         clear hbig; rcases hcs with h3 | ⟨h3, h4⟩
         all_goals
           go_enter Tryz.func114, Tryz.ntmps114
           go_wp2
           go_ret3
           rw [HR.out]; exact ⟨rfl, Below.refl _ _⟩
       · have h8 : sz ≤ 8 := by omega
         have hst : sz ≤ t.length := by omega
         have HR := hdd (show firstR (h :: t) = if numC (toI (flip (be (t.take sz)))) = h :: t.take sz then (toI (flip (be (t.take sz))), ((1 + sz : Nat) : Int), 0) else (0, 0, 10) by
           unfold firstR; rw [firstC_cons, if_neg h1, hS, if_neg hbig, hV]
           by_cases hq : numC (toI (flip (be (t.take sz)))) = h :: t.take sz
           · rw [if_pos hq, if_pos hq]
           · rw [if_neg hq, if_neg hq])
         clear h1 hS hV hbig; have hdb : decide ((sz : Int) > 8) = false := by simp; omega
         have hdc : decide ((sz : Int) ≥ (t.length : Int) + 1) = false := by simp; omega
         have k1 : (1 : Int) ≤ 1 + (sz : Int) := by omega
         have k2 : 1 + (sz : Int) ≤ (c : Int) := by omega
         by_cases hcc : c = 1
         all_goals
           go_enter Tryz.func114, Tryz.ntmps114
           go_wp2
           go_loop [8, 10, 41] (fun u _ i => ∃ j : Nat, j ≤ sz ∧ i = vI j ∧ u = .int .u64 (be (t.take j))) (fun _ _ i => sz - (intOf i).toNat)
           case atStart => exact ⟨0, by omega, rfl, rfl⟩
           case round =>
             obtain ⟨j, hj, rfl, rfl⟩ := hrel
             by_cases hjs : j < sz
             · have hcell := HG.out j (by omega)
               have hbl := be_lt _ (t.take j) rfl; have hlj : (t.take j).length = j := by rw [List.length_take]; omega
               rw [hlj] at hbl; have hpow : 256 ^ j ≤ 256 ^ 7 := Nat.pow_le_pow_right (by omega) (by omega); have hub : be (t.take j) < 72057594037927936 := Nat.lt_of_lt_of_le hbl hpow; clear hpow hbl hlj; have hor := or_byte (c := t[j]) hub; have hqq : (t[j]).toNat < 256 := (t[j]).toNat_lt; have HS := hdd (show be (t.take (j + 1)) = be (t.take j) * 256 + (t[j]).toNat by rw [List.take_succ_eq_append_getElem (by omega), be_snoc]); generalize be (t.take j) = u at *; have hu0 : (0 : Int) ≤ (u : Int) := by omega
               have hu1 : (u : Int) < 72057594037927936 := by omega
               clear hub
               first
               | (exfalso; omega)
               | (generalize (t[j]).toNat = q at *
                  have hq0 : (0 : Int) ≤ (q : Int) := by omega
                  have hq1 : (q : Int) < 256 := by omega
                  go_wp2
                  go_round
                  case rel => exact ⟨j + 1, by omega, by go_num, by rw [HS.out, Int.natCast_add, Int.natCast_mul]; rfl⟩
                  case measure => simp [intOf]; omega)
             · obtain rfl : j = sz := by omega
               have hub := be_take_lt t h8
               have hx : bits .xor .u64 ((be (t.take j) : Nat) : Int) 18446744073709551615 = ((flip (be (t.take j)) : Nat) : Int) := by
                 have := bits_xor_u64_nat (be (t.take j)) 18446744073709551615 hub (by omega); rw [Nat.xor_comm, show (18446744073709551615 : Nat) = 2 ^ 64 - 1 by rfl, Lib.xor_ones64 _ (by omega)] at this; exact this
               have hfl : flip (be (t.take j)) < 18446744073709551616 := by unfold flip; omega
               generalize flip (be (t.take j)) = U at *; have hdj : decide ((j : Int) < (j : Int)) = false := by simp
               clear HG; have hN := toI_range hfl; have hpre := fun (W : World) (hW : Below w.heap.size w W) => (hI.mono hW hW.size).upTo (k := 1 + j) (by simp; omega)
               have htk : (h :: t).take (1 + j) = h :: t.take j := by rw [Nat.add_comm, List.take_succ_cons]
               rw [htk] at hpre; have HPRE := hdd hpre; clear hpre htk; have hw64 : wrap64 (U : Int) = toI U := by unfold wrap64 toI; split <;> omega
               have HW := hdd hw64; clear hw64; go_wp2_with fail; rw [HW.out]; clear HW hx hfl; generalize toI U = N at *; obtain ⟨m, hm⟩ : ∃ m : Nat, m = 1 + j := ⟨_, rfl⟩; have hsum : IntKind.i64.wrap (1 + (j : Int)) = (m : Int) := (IntWalk.i64_in _ (by omega)).trans (by omega); have k3 : (0 : Int) ≤ (m : Int) := by omega
               have k4 : (m : Int) ≤ (c : Int) := by omega
               have k5 : (m : Int) ≤ ((t.length + 1 : Nat) : Int) := by omega
               have k6 : ((t.length + 1 : Nat) : Int) ≤ (c : Int) := by omega
               try rw [hcc] at k4 k6
               have HM1 := hdd hm; rw [← hm] at HPRE; clear hm; have hdrew : Below w.heap.size w w.drew := (Below.refl _ w).drew; have hc0 : (convert 35 9 (.slice (some ⟨p, o, none⟩) m c)).run Tryz.prog w.drew = .ok (.string ⟨(h :: t.take j).toArray⟩) w.drew := run_string_at Tryz.underlying35 Tryz.underlying5 Tryz.underlying9 (HPRE.out _ hdrew)
               try rw [hcc] at hc0
               by_cases hq : numC N = h :: t.take j
               · have HR2 := hdd (show firstR (h :: t) = (N, ((1 + j : Nat) : Int), 0) by rw [HR.out, if_pos hq])
                 have hlq : (h :: t.take j).length = j + 1 := by rw [List.length_cons, List.length_take]; omega
                 go_region_with (go_at_call 143; refine (num_calls N _ hN.1 hN.2).mono ?_; rintro e W1 ⟨⟨v1, rfl, hv1⟩, hb1⟩; (rw [hq] at hv1); obtain ⟨A1, c1, rfl, -⟩ := hv1.form; (rw [hlq] at hv1); have hB1 := hdrew.trans (hb1.mono hdrew.size); have hc1' := run_string_at (dst := 9) Tryz.underlying35 Tryz.underlying5 Tryz.underlying9 hv1; have hc2' := run_string_at (dst := 9) Tryz.underlying35 Tryz.underlying5 Tryz.underlying9 (HPRE.out _ hB1); (try rw [hcc] at hc2'))
                 all_goals
                   clear hsum; go_wp2
                   go_ret3
                   rw [HR2.out]; exact ⟨rfl, hB1⟩
               · have HR2 := hdd (show firstR (h :: t) = (0, 0, 10) by rw [HR.out, if_neg hq])
                 obtain ⟨s1, hs1⟩ : ∃ s1 : ByteArray, s1 = ⟨(numC N).toArray⟩ := ⟨_, rfl⟩; obtain ⟨s2, hs2⟩ : ∃ s2 : ByteArray, s2 = ⟨(h :: t.take j).toArray⟩ := ⟨_, rfl⟩
                 have hne : ¬ s1.toList = s2.toList := by
                   rw [ByteArray.toList_eq, ByteArray.toList_eq, hs1, hs2]; exact hq
                 have hnb : (s1.toList == s2.toList) = false := by simpa using hne
                 rw [← hs2] at hc0; have HS1 := hdd hs1; have HS2 := hdd hs2; clear hs1 hs2 hq
                 go_region_with (go_at_call 143; refine (num_calls N _ hN.1 hN.2).mono ?_; rintro e W1 ⟨⟨v1, rfl, hv1⟩, hb1⟩; obtain ⟨A1, c1, rfl, -⟩ := hv1.form; have hB1 := hdrew.trans (hb1.mono hdrew.size); have hc1' := run_string_at (dst := 9) Tryz.underlying35 Tryz.underlying5 Tryz.underlying9 hv1; have hc2' := run_string_at (dst := 9) Tryz.underlying35 Tryz.underlying5 Tryz.underlying9 (HPRE.out _ hB1); (rw [← HS1.out] at hc1'); (rw [← HS2.out] at hc2'); (try rw [hcc] at hc2'))
                 all_goals
                   clear hsum; go_wp2
                   go_ret3
                   rw [HR2.out]; exact ⟨rfl, hB1⟩
     · have hd2 : decide ((h.toNat : Int) ≥ 144) = false := by simp; omega
       obtain ⟨sz, hsz⟩ : ∃ sz : Nat, (h.toNat : Int) - 128 = (sz : Int) := ⟨h.toNat - 128, by omega⟩; have hS : sizeOf_ h = sz := by unfold sizeOf_; rw [if_neg h2]; omega
       have hV : valOf h (t.take sz) = toI (be (t.take sz)) := by unfold valOf; rw [if_neg h2]
       clear h2
       by_cases hbig : 8 < sz ∨ t.length < sz
       · have HR := hdd (show firstR (h :: t) = (0, 0, 10) by unfold firstR; rw [firstC_cons, if_neg h1, hS, if_pos hbig])
         clear h1 hS hV
         have hcs : decide ((sz : Int) > 8) = true ∨ (decide ((sz : Int) > 8) = false ∧ decide ((sz : Int) ≥ (t.length : Int) + 1) = true) := by
           by_cases h8 : 8 < sz
           · exact .inl (by simp; omega)
           · exact .inr ⟨by simp; omega, by simp; omega⟩
         clear hbig; rcases hcs with h3 | ⟨h3, h4⟩
         all_goals
           go_enter Tryz.func114, Tryz.ntmps114
           go_wp2
           go_ret3
           rw [HR.out]; exact ⟨rfl, Below.refl _ _⟩
       · have h8 : sz ≤ 8 := by omega
         have hst : sz ≤ t.length := by omega
         have HR := hdd (show firstR (h :: t) = if numC (toI (be (t.take sz))) = h :: t.take sz then (toI (be (t.take sz)), ((1 + sz : Nat) : Int), 0) else (0, 0, 10) by
           unfold firstR; rw [firstC_cons, if_neg h1, hS, if_neg hbig, hV]
           by_cases hq : numC (toI (be (t.take sz))) = h :: t.take sz
           · rw [if_pos hq, if_pos hq]
           · rw [if_neg hq, if_neg hq])
         clear h1 hS hV hbig; have hdb : decide ((sz : Int) > 8) = false := by simp; omega
         have hdc : decide ((sz : Int) ≥ (t.length : Int) + 1) = false := by simp; omega
         have k1 : (1 : Int) ≤ 1 + (sz : Int) := by omega
         have k2 : 1 + (sz : Int) ≤ (c : Int) := by omega
         by_cases hcc : c = 1
         all_goals
           go_enter Tryz.func114, Tryz.ntmps114
           go_wp2
           go_loop [8, 10, 41] (fun u _ i => ∃ j : Nat, j ≤ sz ∧ i = vI j ∧ u = .int .u64 (be (t.take j))) (fun _ _ i => sz - (intOf i).toNat)
           case atStart => exact ⟨0, by omega, rfl, rfl⟩
           case round =>
             obtain ⟨j, hj, rfl, rfl⟩ := hrel
             by_cases hjs : j < sz
             · have hcell := HG.out j (by omega)
               have hbl := be_lt _ (t.take j) rfl; have hlj : (t.take j).length = j := by rw [List.length_take]; omega
               rw [hlj] at hbl; have hpow : 256 ^ j ≤ 256 ^ 7 := Nat.pow_le_pow_right (by omega) (by omega); have hub : be (t.take j) < 72057594037927936 := Nat.lt_of_lt_of_le hbl hpow; clear hpow hbl hlj; have hor := or_byte (c := t[j]) hub; have hqq : (t[j]).toNat < 256 := (t[j]).toNat_lt; have HS := hdd (show be (t.take (j + 1)) = be (t.take j) * 256 + (t[j]).toNat by rw [List.take_succ_eq_append_getElem (by omega), be_snoc]); generalize be (t.take j) = u at *; have hu0 : (0 : Int) ≤ (u : Int) := by omega
               have hu1 : (u : Int) < 72057594037927936 := by omega
               clear hub
               first
               | (exfalso; omega)
               | (generalize (t[j]).toNat = q at *
                  have hq0 : (0 : Int) ≤ (q : Int) := by omega
                  have hq1 : (q : Int) < 256 := by omega
                  go_wp2
                  go_round
                  case rel => exact ⟨j + 1, by omega, by go_num, by rw [HS.out, Int.natCast_add, Int.natCast_mul]; rfl⟩
                  case measure => simp [intOf]; omega)
             · obtain rfl : j = sz := by omega
               have hfl := be_take_lt t h8
               have hx : bits .xor .u64 ((be (t.take j) : Nat) : Int) 0 = ((be (t.take j) : Nat) : Int) := by
                 have := bits_xor_u64_nat (be (t.take j)) 0 hfl (by omega); rw [Nat.xor_zero] at this; exact this
               generalize be (t.take j) = U at *; have hdj : decide ((j : Int) < (j : Int)) = false := by simp
               clear HG; have hN := toI_range hfl; have hpre := fun (W : World) (hW : Below w.heap.size w W) => (hI.mono hW hW.size).upTo (k := 1 + j) (by simp; omega)
               have htk : (h :: t).take (1 + j) = h :: t.take j := by rw [Nat.add_comm, List.take_succ_cons]
               rw [htk] at hpre; have HPRE := hdd hpre; clear hpre htk; have hw64 : wrap64 (U : Int) = toI U := by unfold wrap64 toI; split <;> omega
               have HW := hdd hw64; clear hw64; go_wp2_with fail; rw [HW.out]; clear HW hx hfl; generalize toI U = N at *; obtain ⟨m, hm⟩ : ∃ m : Nat, m = 1 + j := ⟨_, rfl⟩; have hsum : IntKind.i64.wrap (1 + (j : Int)) = (m : Int) := (IntWalk.i64_in _ (by omega)).trans (by omega); have k3 : (0 : Int) ≤ (m : Int) := by omega
               have k4 : (m : Int) ≤ (c : Int) := by omega
               have k5 : (m : Int) ≤ ((t.length + 1 : Nat) : Int) := by omega
               have k6 : ((t.length + 1 : Nat) : Int) ≤ (c : Int) := by omega
               try rw [hcc] at k4 k6
               have HM1 := hdd hm; rw [← hm] at HPRE; clear hm; have hdrew : Below w.heap.size w w.drew := (Below.refl _ w).drew; have hc0 : (convert 35 9 (.slice (some ⟨p, o, none⟩) m c)).run Tryz.prog w.drew = .ok (.string ⟨(h :: t.take j).toArray⟩) w.drew := run_string_at Tryz.underlying35 Tryz.underlying5 Tryz.underlying9 (HPRE.out _ hdrew)
               try rw [hcc] at hc0
               by_cases hq : numC N = h :: t.take j
               · have HR2 := hdd (show firstR (h :: t) = (N, ((1 + j : Nat) : Int), 0) by rw [HR.out, if_pos hq])
                 have hlq : (h :: t.take j).length = j + 1 := by rw [List.length_cons, List.length_take]; omega
                 go_region_with (go_at_call 143; refine (num_calls N _ hN.1 hN.2).mono ?_; rintro e W1 ⟨⟨v1, rfl, hv1⟩, hb1⟩; (rw [hq] at hv1); obtain ⟨A1, c1, rfl, -⟩ := hv1.form; (rw [hlq] at hv1); have hB1 := hdrew.trans (hb1.mono hdrew.size); have hc1' := run_string_at (dst := 9) Tryz.underlying35 Tryz.underlying5 Tryz.underlying9 hv1; have hc2' := run_string_at (dst := 9) Tryz.underlying35 Tryz.underlying5 Tryz.underlying9 (HPRE.out _ hB1); (try rw [hcc] at hc2'))
                 all_goals
                   clear hsum; go_wp2
                   go_ret3
                   rw [HR2.out]; exact ⟨rfl, hB1⟩
               · have HR2 := hdd (show firstR (h :: t) = (0, 0, 10) by rw [HR.out, if_neg hq])
                 obtain ⟨s1, hs1⟩ : ∃ s1 : ByteArray, s1 = ⟨(numC N).toArray⟩ := ⟨_, rfl⟩; obtain ⟨s2, hs2⟩ : ∃ s2 : ByteArray, s2 = ⟨(h :: t.take j).toArray⟩ := ⟨_, rfl⟩
                 have hne : ¬ s1.toList = s2.toList := by
                   rw [ByteArray.toList_eq, ByteArray.toList_eq, hs1, hs2]; exact hq
                 have hnb : (s1.toList == s2.toList) = false := by simpa using hne
                 rw [← hs2] at hc0; have HS1 := hdd hs1; have HS2 := hdd hs2; clear hs1 hs2 hq
                 go_region_with (go_at_call 143; refine (num_calls N _ hN.1 hN.2).mono ?_; rintro e W1 ⟨⟨v1, rfl, hv1⟩, hb1⟩; obtain ⟨A1, c1, rfl, -⟩ := hv1.form; have hB1 := hdrew.trans (hb1.mono hdrew.size); have hc1' := run_string_at (dst := 9) Tryz.underlying35 Tryz.underlying5 Tryz.underlying9 hv1; have hc2' := run_string_at (dst := 9) Tryz.underlying35 Tryz.underlying5 Tryz.underlying9 (HPRE.out _ hB1); (rw [← HS1.out] at hc1'); (rw [← HS2.out] at hc2'); (try rw [hcc] at hc2'))
                 all_goals
                   clear hsum; go_wp2
                   go_ret3
                   rw [HR2.out]; exact ⟨rfl, hB1⟩
end
end Ce
end Go.Proofs.YtgcnhmjpfbbfcaaGreat
