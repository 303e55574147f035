/-
  part of the proof of TopNames.
-/
import Derived.Test.YtgcnhmjpfbbfcaaGreatTy5
import Derived.Laws.RangeAny
import Derived.Deep.QuietTactic
import Derived.BigQuiet
import Derived.RangeFuncBound
import Derived.RangeFuncCalls
import Derived.RangeFuncLeaves
import Derived.Shelf.Abstract
import Derived.Shelf.RegionOpen
import Derived.TacticsInMore
import Derived.LoopNIn
import Derived.LoopIn
set_option linter.unusedVariables false
set_option linter.unusedSimpArgs false
set_option maxRecDepth 100000
set_option maxHeartbeats 8000000
namespace Go.Proofs.YtgcnhmjpfbbfcaaGreat
namespace Wa
section
open Go.RowKit Go.Maps
open Ce Se
def findR (last : Nat → Blk) : Nat → Int × Nat
 | 0 => (0, 1)
 | k + 1 => if (isHd (last k) k).1 > (findR last k).1 then isHd (last k) k else findR last k
theorem findR_two (last : Nat → Blk) : findR last 2 = findG last := by
 rfl
def logC (d : Nat) (ev tv : Value) (L : Lg) : Array Value := #[.pointer (some ⟨d, 0, none⟩), vI L.g, vI L.half, ev, vI L.sure, vI (used L), tv, .bool L.fin]
section
variable {w w' : World} {base b d sb mb : Nat} {D D' : Dv}
theorem Kept.old {B : Nat} {a c e : World} (h : Kept (fun i => i < B ∧ i ≠ b) a c) (k : Below c.heap.size c e) (hB : B ≤ c.heap.size) : Kept (fun i => i < B ∧ i ≠ b) a e :=
 h.trans (Kept.of_below k fun i hi => by omega)
theorem find_calls (h : DvAt w base d sb mb D) (h4 : 4 ≤ D.sure.length) (ho : offD D = false) (hb : Ob w b 218 (logC d vN vN ⟨0, 1, [], 0, false⟩)) (hbd : b ≠ d ∧ b ≠ sb ∧ b ≠ mb) :
   Calls Tryz.prog 105 #[.pointer (some ⟨b, 0, none⟩)] w fun e w' => (∃ ev vs, e = .returned (.tuple #[ev, vO]) ∧ w'.ownsRow w.heap.size 35 1 ev vs.length vs ∧ Ents w' (fun i => w.heap.size ≤ i) vs (foundG (lastD D) (szD D))) ∧
     Ob w' b 218 (logC d vN vN ⟨(findG (lastD D)).1, (findG (lastD D)).2, [], 0, false⟩) ∧ Kept (fun i => i < w.heap.size ∧ i ≠ b) w w' := by
 have hlen := h.len; have hbl := hb.lt; have hdl := h.ob.lt; have hsl := h.sure.lt; have hml := h.map.lt; have HD := hdd (fun (W : World) (hW : Kept (fun i => i < w.heap.size ∧ i ≠ b) w W) => h.kept hW (by simp; omega) (by simp; omega) (by simp; omega)); have CR := hdd (fun (W : World) (hW : Kept (fun i => i < w.heap.size ∧ i ≠ b) w W) (i : Nat) (hi : i < D.sure.length) => read_good (HD.out W hW) ho i hi); have HLB := hdd (fun (i : Nat) (hi : i < D.sure.length) => lastD_len h.ok hi); have HF := hdd (findR_two (lastD D)); have HFS := hdd (fun k => show findR (lastD D) (k + 1) = if (isHd (lastD D k) k).1 > (findR (lastD D) k).1 then isHd (lastD D k) k else findR (lastD D) k from rfl); have hb0 : Ob w b 218 (logC d vN vN ⟨(findR (lastD D) 0).1, (findR (lastD D) 0).2, [], 0, false⟩) := hb; clear h
 go_enter Tryz.func105, Tryz.ntmps105
 go_wp2
 go_loopw [4, 5, 6, 7, 8, 11] (fun _ _ _ _ _ i wr => ∃ k : Nat, k ≤ 2 ∧ i = vI k ∧ Ob wr b 218 (logC d vN vN ⟨(findR (lastD D) k).1, (findR (lastD D) k).2, [], 0, false⟩) ∧ Kept (fun i => i < w.heap.size ∧ i ≠ b) w wr) (fun _ _ _ _ _ i _ => 2 - (intOf i).toNat)
 case atStart => exact ⟨0, by omega, rfl, hb0, Kept.refl _ _⟩
 case round =>
   obtain ⟨k, hk, rfl, hO, hK⟩ := hrel
   by_cases hlt : k < 2
   · have y0 := hO.cell (j := 0) (v := .pointer (some ⟨d, 0, none⟩)) rfl
     have hsz := hK.size; have cR := CR.out wr hK k (by omega); have hl64 := HLB.out k (by omega); have HS := hdd (HFS.out k); generalize lastD D k = blk at *; have HO := hdd hO; generalize findR (lastD D) k = p at *; go_wp2_with (go_at_call 159; refine cR.mono ?_; rintro e W1 ⟨⟨v1, rfl, hv1⟩, hb1⟩); have hv2 := (BlkAt.bytes hv1 hl64).wide (Nat.zero_le _) (Nat.le_refl _); refine (isHead_calls blk hl64 k (by omega) v1 W1 hv2).mono ?_; rintro e W2 ⟨rfl, hb2⟩; have hK2 := Kept.old (Kept.old hK hb1 hsz) hb2 (by have := hb1.size; omega); have hO2 := (HO.out.same hb1).same hb2; have hs2 := hK2.size; generalize isHd blk k = q at *; have c1 := hO2.cell (j := 1) (v := vI p.1) rfl; have c2 := hO2.cell (j := 2) (v := vI p.2) rfl; have z1 := hO2.frozen 1; have z2 := hO2.frozen 2
     by_cases hgt : q.1 > p.1
     · have hd : decide (q.1 > p.1) = true := by simpa using hgt
       have HS2 := hdd (HS.out.trans (if_pos hgt)); clear HS hgt; go_wp2
       go_roundw
       case rel =>
         refine ⟨k + 1, by omega, by go_num, ?_, ?_⟩
         · rw [HS2.out]
           exact (hO2.set 1 (vI q.1)).set 2 (vI q.2)
         · exact hK2.trans (Kept.of_grown ((grownBy_set W2 b 1 (vI q.1)).trans (grownBy_set _ b 2 (vI q.2))) fun i hi => ⟨by omega, fun e => hi.2 (Option.some.inj e)⟩)
       case measure => simp [intOf]; omega
     · have hd : decide (q.1 > p.1) = false := by simpa using hgt
       have HS2 := hdd (HS.out.trans (if_neg hgt)); clear HS hgt; go_wp2
       go_roundw
       case rel =>
         refine ⟨k + 1, by omega, by go_num, ?_, hK2⟩; rw [HS2.out]; exact hO2
       case measure => simp [intOf]; omega
   · obtain rfl : k = 2 := by omega
     rw [HF.out] at hO; have hDr := HD.out wr hK; have hsz := hK.size; have y0 := hO.cell (j := 0) (v := .pointer (some ⟨d, 0, none⟩)) rfl; have y1 := hO.cell (j := 1) (v := vI (findG (lastD D)).1) rfl; have y2 := hO.cell (j := 2) (v := vI (findG (lastD D)).2) rfl; have hbd2 := findG_bd (lastD D); have HFo := hdd (show foundG (lastD D) (szD D) = if (findG (lastD D)).1 = 0 then [] else entP (strmOf (halfB D (findG (lastD D)).2)) from rfl); have HO := hdd hO; have cS := hdd (stream_calls hDr h4 ho hO.lt y0 (findG (lastD D)).2 hbd2.2)
     have HLS := hdd (show (strmOf (halfB D (findG (lastD D)).2)).length ≤ 600000 by
       have := strmOf_len (halfB D (findG (lastD D)).2); rw [halfB_len] at this; unfold szD at this; omega)
     clear hO
     by_cases hg : (findG (lastD D)).1 = 0
     · have HF2 := hdd (HFo.out.trans (if_pos hg))
       have hd : ((findG (lastD D)).1 == 0) = true := by simpa using hg
       generalize hp : findG (lastD D) = p at *; have HP := hdd hp; clear hg HFo hp; go_wp2; go_ret2; rw [HP.out]; refine ⟨⟨_, [], rfl, World.ownsRow_nil _ _ _ _, ?_⟩, HO.out, hK⟩; rw [HF2.out]
       trivial
     · have HF2 := hdd (HFo.out.trans (if_neg hg))
       have hd : ((findG (lastD D)).1 == 0) = false := by simpa using hg
       generalize hp : findG (lastD D) = p at *; have HP := hdd hp; clear hp; generalize strmOf (halfB D p.2) = S at *; clear hg HFo; go_wp2_with (go_at_call 161; refine cS.out.mono ?_; rintro e W1 ⟨⟨v1, rfl, hv1⟩, hb1⟩); have hv2 : BytesAt W1 wr.heap.size W1.heap.size v1 S := BytesAt.of_own hv1; have HLL := HLS.out; refine (entries_calls S v1 W1 _ _ hv2 (Nat.le_refl _) HLL).mono ?_; rintro e W2 ⟨⟨ev, vs, rfl, hev, hE⟩, hb2⟩; obtain ⟨Ae, ce, rfl, -⟩ := (Sl.of_own hev).at_; go_wp2; go_ret2; have hs1 := hb1.size; rw [HP.out]; refine ⟨⟨_, vs, rfl, row_wide hev (by omega), ?_⟩, (HO.out.same hb1).same hb2, Kept.old (Kept.old hK hb1 hsz) hb2 (by omega)⟩; rw [HF2.out]; exact hE.mono fun i hi => by omega
end
end
section
open Go.RowKit Go.Maps
open Ce Se
theorem wrG_len (D : Dv) (k : Int) (f : Nat → Blk) : ∀ n, (wrG writeD D k f n).1.sure.length = D.sure.length
 | 0 => rfl
 | n + 1 => by
   have ih := wrG_len D k f n; simp only [wrG]
   split
   · rw [lenW, ih]
   · exact ih
theorem wrG_step {D : Dv} {k : Int} {f : Nat → Blk} {j : Nat} (h : (wrG writeD D k f j).2 = 0) : wrG writeD D k f (j + 1) = writeD (wrG writeD D k f j).1 (k + j) (f j) := by
 simp only [wrG]; rw [if_pos h]
theorem szD_len {D E : Dv} (h : E.sure.length = D.sure.length) : szD E = szD D := by unfold szD; rw [h]
section
variable {w w' : World} {base b d sb mb : Nat} {D D' : Dv}
def Lk (base b d sb mb : Nat) (D : Dv) (W : World) : Prop := W.cell? ⟨b, 0, none⟩ = some (.pointer (some ⟨d, 0, none⟩)) ∧ ∃ E, DvAt W base d sb mb E ∧ E.sure.length = D.sure.length
theorem Lk.same {W W' : World} (h : Lk base b d sb mb D W) (hb : Below W.heap.size W W') (hbl : b < W.heap.size) : Lk base b d sb mb D W' := by
 obtain ⟨h1, E, h2, h3⟩ := h; exact ⟨(hb.cell (p := ⟨b, 0, none⟩) hbl).trans h1, E, h2.same hb, h3⟩
theorem Lk.size {W : World} (h : Lk base b d sb mb D W) (h4 : 4 ≤ D.sure.length) :
   Calls Tryz.prog 133 #[.pointer (some ⟨b, 0, none⟩)] W fun e w' => e = .returned (vI (szD D : Nat)) ∧ W = w' := by
 obtain ⟨h1, E, h2, h3⟩ := h; have := size_calls h2 (by omega) h1
 rwa [szD_len h3] at this
theorem Lk.at_ {W : World} (h : Lk base b d sb mb D W) (h4 : 4 ≤ D.sure.length) (half i : Nat) (hh : half ≤ 1) (hi : i ≤ 1000000) :
   Calls Tryz.prog 216 #[.pointer (some ⟨b, 0, none⟩), vI half, vI i] W fun e w' => e = .returned (vI (Wa.base half (szD D) + i)) ∧ W = w' := by
 obtain ⟨h1, E, h2, h3⟩ := h; have := at_calls h2 (by omega) h1 half i hh hi
 rwa [szD_len h3] at this
theorem Dev.cell {W W' : World} {p : Addr} (h : Dev d sb mb W W') (hb : p.block < W.heap.size) (h1 : p.block ≠ d) (h2 : p.block ≠ sb) (h3 : p.block ≠ mb) : W'.cell? p = W.cell? p :=
 World.cell?_of_block (Kept.block h p.block ⟨hb, h1, h2, h3⟩)
theorem clear_calls (h : DvAt w base d sb mb D) (h4 : 4 ≤ D.sure.length) (hc : w.cell? ⟨b, 0, none⟩ = some (.pointer (some ⟨d, 0, none⟩))) (hbl : b < w.heap.size) (hbd : b ≠ d ∧ b ≠ sb ∧ b ≠ mb) (half from_ : Nat) (hh : half ≤ 1) (hf : from_ ≤ szD D) :
   Calls Tryz.prog 168 #[.pointer (some ⟨b, 0, none⟩), vI half, vI from_] w fun e w' =>
     e = .returned (vI (wrG writeD D (Wa.base half (szD D) + from_) (fun _ => List.replicate 64 0) (szD D - from_)).2) ∧ DvAt w' base d sb mb (wrG writeD D (Wa.base half (szD D) + from_) (fun _ => List.replicate 64 0) (szD D - from_)).1 ∧ Dev d sb mb w w' := by
 have hlen := h.len; have hz : szD D ≤ 8191 := by unfold szD; omega
 have HLK := hdd (fun (W : World) E (h1 : Dev d sb mb w W) (h2 : DvAt W base d sb mb E) (h3 : E.sure.length = D.sure.length) => show Lk base b d sb mb D W from ⟨(Dev.cell (p := ⟨b, 0, none⟩) h1 hbl hbd.1 hbd.2.1 hbd.2.2).trans hc, E, h2, h3⟩); have HGS := hdd (fun j hj => wrG_step (D := D) (k := Wa.base half (szD D) + from_) (f := fun _ => List.replicate 64 0) (j := j) hj); have HGL := hdd (fun j => wrG_len D (Wa.base half (szD D) + from_) (fun _ => List.replicate 64 0) j); have HGB := hdd (fun j n hj hn => wrG_bad (wr := writeD) (D := D) (k := Wa.base half (szD D) + from_) (f := fun _ => List.replicate 64 0) (j := j) hj n hn); have H0 := hdd (show wrG writeD D (Wa.base half (szD D) + from_) (fun _ => List.replicate 64 0) 0 = (D, 0) from rfl); have HBE := hdd (fun (i j : Nat) (hij : i = from_ + j) => show Wa.base half (szD D) + (i : Int) = Wa.base half (szD D) + (from_ : Int) + (j : Int) by omega); obtain ⟨G, hG⟩ : ∃ G : Nat → Dv × Int, G = wrG writeD D (Wa.base half (szD D) + from_) (fun _ => List.replicate 64 0) := ⟨_, rfl⟩; rw [← hG] at HGS HGL HGB H0; have HG := hdd hG; have HDV := hdd h; have hdb : d < w.heap.size := h.ob.lt; have hmb : mb < w.heap.size := h.map.lt; clear hG h hc
 go_enter Tryz.func168, Tryz.ntmps168
 go_wp2
 go_loopw [7, 8] (fun i _ wr => ∃ j : Nat, from_ + j ≤ szD D ∧ i = vI ((from_ + j : Nat) : Int) ∧ (G j).2 = 0 ∧ DvAt wr base d sb mb (G j).1 ∧ Dev d sb mb w wr) (fun i _ _ => szD D - (intOf i).toNat)
 case atStart => exact ⟨0, hf, rfl, by rw [H0.out], by rw [H0.out]; exact HDV.out, Kept.refl _ _⟩
 case round =>
   obtain ⟨j, hj, rfl, hGj, hDj, hK⟩ := hrel; have hlk := HLK.out wr _ hK hDj (HGL.out j); have cS := hdd (hlk.size h4); obtain ⟨i, hi⟩ : ∃ i : Nat, from_ + j = i := ⟨_, rfl⟩; rw [hi]; have HI := hdd hi; rw [hi] at hj; clear hi; go_wp2_with fail; refine cS.out.mono ?_; rintro e W ⟨rfl, rfl⟩
   by_cases hlt : i < szD D
   · have hd : decide (i < szD D) = true := by simp; omega
     have hlt2 := hdd hlt; have hdr := (Below.refl wr.heap.size wr).drew; have hsz := Kept.size hK; have hlkd := hlk.same hdr (by omega); have CA := hdd (fun W (hW : Lk base b d sb mb D W) => hW.at_ h4 half i hh (by omega)); rw [HBE.out i j (by have := HI.out; omega)] at CA; have CG := hdd (HGS.out j hGj); have HGj := hdd hGj; have HDj := hdd (DvAt.same hDj hdr); have HKd := hdd (Dev.trans hK (Dev.of_below hdr)); generalize Wa.base half (szD D) + (from_ : Int) + (j : Int) = at_ at CA CG; clear hK hDj hGj hlk cS hj hlt; go_wp2_with fail; refine Pu.regionM [(0, false), (1, false), (2, false), (3, false), (4, false), (5, false), (6, false), (7, false), (8, true), (9, true), (10, false)] (fun V => Lk base b d sb mb D V) hmx (by kernel_rfl) (by kernel_rfl) (by kernel_rfl) hlkd rfl ?_; simp only [Pu.named, List.filterMap_cons, List.filterMap_nil, zzJ, zzK, zzL, zzM]
     iterate 7 (apply Pu.WalkM.on (by rfl)
                · rintro V hV
                  have hcr := hV.1; go_wp2_with fail; refine ⟨rfl, ?_, rfl⟩
                  try simp only [Act.put, zzA, zzB, zzC]
                  rfl
                simp only [Act.put, zzA, zzB, zzC])
     iterate 1 (apply Pu.WalkM.on (by rfl)
                · rintro V hV
                  go_wp2_with (go_at_call 216; refine (CA.out _ hV).mono ?_; rintro e W1 ⟨rfl, rfl⟩); refine ⟨rfl, ?_, rfl⟩
                  try simp only [Act.put, zzA, zzB, zzC]
                  rfl
                simp only [Act.put, zzA, zzB, zzC])
     refine Pu.WalkM.make (by rfl) ?_; rintro V rfl; obtain ⟨w1, hmk, hv1, hg1⟩ := make_bytes 64 wr.drew (by omega); rw [show ((64 : Nat) : Int) = 64 from rfl] at hmk; have hb1 : Below wr.drew.heap.size wr.drew w1 := (Below.refl _ _).grown hg1 (Nat.le_refl _) (fun k e => by cases e); go_wp2_with fail; refine Pu.mk3 (.slice (some ⟨wr.drew.heap.size, 0, none⟩) 64 64) (hlkd.same hb1 (by have := hdr.size; omega)) ?_ ?_
     · try simp only [Act.put, zzA, zzB, zzC]
       try rfl
     simp only [Act.put, zzA, zzB, zzC]; refine Pu.WalkM.make (by rfl) ?_; rintro V rfl; have hDv := HDj.out.same hb1; have hI : BytesAt V wr.drew.heap.size V.heap.size (.slice (some ⟨wr.drew.heap.size, 0, none⟩) 64 64) (List.replicate 64 0) := Sl.of_own hv1; have hds := hdr.size; have cW := write_calls hDv at_ (List.replicate 64 0) _ _ _ hI (Nat.le_refl _) (by omega) (by omega); rw [← CG.out] at cW; have CW := hdd cW; clear cW hI hv1 hmk; go_wp2_with (go_at_call 171; refine CW.out.mono ?_; rintro e W3 ⟨rfl, hD3, hK3⟩); have hK4 := Dev.trans (Dev.trans HKd.out (Dev.of_below hb1)) hK3; refine ⟨rfl, vI (G (j + 1)).2, (fun V => V = W3), (fun V => V = W3), ?_, rfl, (fun _ h => h), (.inr (fun V h => by rw [h]; exact HLK.out _ _ hK4 hD3 (HGL.out _))), ?_⟩
     · try simp only [Act.put, zzA, zzB, zzC]
       try rfl
     simp only [Act.put, zzA, zzB, zzC]
     iterate 1 (apply Pu.WalkM.on (by rfl)
                · rintro V hV
                  rw [hV]; go_wp2_with fail; refine ⟨rfl, ?_, rfl⟩
                  try simp only [Act.put, zzA, zzB, zzC]
                  rfl
                simp only [Act.put, zzA, zzB, zzC])
     refine Pu.WalkM.nil ?_; rintro V rfl
     by_cases he : (G (j + 1)).2 = 0
     · have hne : ((G (j + 1)).2 != 0) = false := by simpa using he
       have HE := hdd he; have hlt3 := hlt2.out; have hi3 := HI.out; clear he; go_wp2
       go_roundw
       case rel => exact ⟨j + 1, by omega, by rw [← hi3]; go_num, HE.out, hD3, hK4⟩
       case measure => simp [intOf]; omega
     · have hne : ((G (j + 1)).2 != 0) = true := by simpa using he
       have hfin := HGB.out (j + 1) (szD D - from_) he (by have := HI.out; have := hlt2.out; omega); have HFI := hdd hfin; clear he hfin; go_wp2; go_ret; rw [← HG.out, HFI.out]; exact ⟨rfl, hD3, hK4⟩
   · have hd : decide (i < szD D) = false := by simp; omega
     have hij : szD D - from_ = j := by have := HI.out; omega
     have hfin : G (szD D - from_) = G j := by rw [hij]
     rw [HG.out] at hfin hGj hDj; have HFI := hdd hfin; have HGj := hdd hGj; clear hfin hGj hij; go_wp2; go_ret; rw [HFI.out]; exact ⟨by rw [HGj.out]; rfl, hDj, hK⟩
end
end
section
open Go.RowKit Go.Maps
open Ce Se
theorem ofNat_mod (n : Nat) : UInt8.ofNat (n % 256) = UInt8.ofNat n := by
 apply UInt8.toNat_inj.1; simp
def tbK (n k : Nat) : List UInt8 := (tb3 n).take k ++ List.replicate (3 - k) 0
theorem tbK_len (n : Nat) {k : Nat} (hk : k ≤ 3) : (tbK n k).length = 3 := by simp [tbK, tb3]; omega
theorem tbK_set (n : Nat) : ∀ k, k < 3 → (tbK n k).set k (UInt8.ofNat (n / 256 ^ (2 - k) % 256)) = tbK n (k + 1)
 | 0, _ => by simp [tbK, tb3, ofNat_mod]
 | 1, _ => by simp [tbK, tb3, ofNat_mod]
 | 2, _ => by simp [tbK, tb3, ofNat_mod]
theorem entry_calls (l : List UInt8) (v : Value) (w : World) (hI : BytesAt w 0 w.heap.size v l) (hl : l.length ≤ 65536) :
   Calls Tryz.prog 163 #[v] w fun e w' => (∃ r, e = .returned r ∧ w'.ownsRow w.heap.size 5 1 r (encE l).length (bytesV (encE l))) ∧ Below w.heap.size w w' := by
 obtain ⟨i0, hi0, hz0, hz1, hz2⟩ := inf3 byteInfo; obtain ⟨A, c, rfl, -⟩ := hI.form; have hmk := run_make (P := Tryz.prog) w 35 5 i0 _ Tryz.underlying35 hi0 hz0 .i64 .i64 3 (3 + (l.length : Int)) (by omega) (by omega) (by rw [hz2]; omega) (by omega); have htn : (3 + (l.length : Int)).toNat = 3 + l.length := by omega
 rw [htn, hz1, show ((3 : Int)).toNat = 3 from rfl] at hmk; obtain ⟨W0, hW0⟩ : ∃ W0, W0 = w.alloc (.cells (madeCells (Value.int .u8 0).cells ((3 + l.length) * 1)) 5) := ⟨_, rfl⟩; rw [← hW0] at hmk; have hb0 : Below w.heap.size w W0 := by rw [hW0]; exact (Below.refl _ w).alloc (Nat.le_refl _) _
 have hown0 : W0.ownsRow w.heap.size 5 1 (.slice (some ⟨w.heap.size, 0, none⟩) 3 (3 + l.length)) 3 (bytesV (tbK l.length 0)) := by
   rw [hW0]; refine ⟨by rw [bytesV_length, tbK_len _ (by omega)], .inr ⟨w.heap.size, 3 + l.length, _, rfl, Nat.le_refl _, heap_alloc_new _ _, by omega, by unfold maxLen; omega, size_madeCells _ _, ?_⟩⟩; rw [madeBytes]; unfold bytesV; rw [← List.map_take, List.take_replicate]
   congr 1
   simp [tbK]
 have HST := hdd (tbK_set l.length); have HT3 := hdd (show tbK l.length 3 = tb3 l.length by simp [tbK, tb3]); have HEN := hdd (show encE l = tb3 l.length ++ l from rfl); have HEL := hdd (encE_len l); have HI := hdd hI; have HL := hdd hl; clear hW0 htn hI
 go_enter Tryz.func163, Tryz.ntmps163
 go_wp2
 go_loopw [4, 11] (fun _ i wr => ∃ k : Nat, k ≤ 3 ∧ i = vI k ∧ wr.ownsRow w.heap.size 5 1 (.slice (some ⟨w.heap.size, 0, none⟩) 3 (3 + l.length)) 3 (bytesV (tbK l.length k)) ∧ Below w.heap.size w wr) (fun _ i _ => 3 - (intOf i).toNat)
 case atStart => exact ⟨0, by omega, rfl, hown0, hb0⟩
 case round =>
   obtain ⟨k, hk, rfl, hown, hB⟩ := hrel
   by_cases hlt : k < 3
   · have hcl := hown.cellAt k (by omega)
     rw [List.getElem?_eq_getElem (by rw [bytesV_length, tbK_len _ (by omega)]; omega)] at hcl; have hfz := hown.frozenAt k; have HSk := hdd (HST.out k hlt); have hlN := HL.out; go_wp2
     have hbt : Value.int .u8 ((l.length : Int) / 2 ^ (8 * (2 - k)) % 256) = .int .u8 ((UInt8.ofNat (l.length / 256 ^ (2 - k) % 256)).toNat : Int) := by
       rw [byte_shift (by omega), Int.toNat_natCast]
       congr 2
       simp
     rw [hbt]; obtain ⟨hown2, hg2⟩ := hown.stored k (.int .u8 ((UInt8.ofNat (l.length / 256 ^ (2 - k) % 256)).toNat : Int)); rw [← bytesV_set, HSk.out] at hown2
     go_roundw
     case rel => exact ⟨k + 1, by omega, by go_num, hown2, hB.grown hg2 hB.size (fun k e => by cases e; exact Nat.le_refl _)⟩
     case measure => simp [intOf]; omega
   · obtain rfl : k = 3 := by omega
     rw [HT3.out] at hown
     go_wp2_with (at_builtin
                  refine wpList_append_sl _ rfl (.tmp 25) (.tmp 26) _ rfl w.heap.size 5 i0 _ 1 1 Tryz.underlying35 hi0 hz0 hz1 hz2 rfl (by omega) _ 3 (bytesV (tb3 l.length)) rfl hown 0 w.heap.size _ l.length (bytesV l) rfl (Sl.below HI.out hB) (bytesV_one l) (by have := HL.out; unfold maxLen; omega) (by have := HL.out; omega) hB.size ?_; intro v1 w5 hv1 hg1 hat1)
     have hB5 := hB.grown hg1 hB.size (fun g hg => (hown.lt g hg).1)
     have hv6 : w5.ownsRow w.heap.size 5 1 v1 (encE l).length (bytesV (encE l)) := by
       rw [HEL.out, HEN.out, bytesV_append]; exact hv1
     obtain ⟨A5, c5, rfl, -⟩ := (BytesAt.of_own hv6).form; clear hv1 hg1 hat1; go_wp2; go_ret; exact ⟨⟨_, rfl, hv6⟩, hB5⟩
end
end Wa
namespace It
section
open Go.RowKit
def okB (c : UInt8) : Bool := decide (97 ≤ c.toNat ∧ c.toNat ≤ 122) || decide (48 ≤ c.toNat ∧ c.toNat ≤ 57) || decide (c.toNat = 45)
def good (s : ByteArray) : Bool := s.data.toList.all okB && decide (1 ≤ s.size) && decide (s.size ≤ 16)
def countOk (n : Int) : Bool := decide (0 ≤ n) && decide (n ≤ 1099511627776)
theorem okB_cases (n : Nat) : n < 45 ∨ n = 45 ∨ (45 < n ∧ n < 48) ∨ (48 ≤ n ∧ n ≤ 57) ∨ (57 < n ∧ n < 97) ∨ (97 ≤ n ∧ n ≤ 122) ∨ 122 < n := by omega
theorem good_no {s : ByteArray} {k : Nat} (hk : k < s.size) (h : okB s[k] = false) : good s = false := by
 unfold good
 have : s.data.toList.all okB = false := by
   rw [List.all_eq_false]; refine ⟨s[k], ?_, by simp [h]⟩; exact Array.mem_toList_iff.2 (Array.getElem_mem hk)
 rw [this]; rfl
theorem good_all {s : ByteArray} (h : ∀ j, (hj : j < s.size) → okB s[j] = true) : good s = (decide (1 ≤ s.size) && decide (s.size ≤ 16)) := by
 unfold good
 have : s.data.toList.all okB = true := by
   rw [List.all_eq_true]; intro x hx; obtain ⟨i, hi, rfl⟩ := List.getElem_of_mem hx; exact h i (by simpa using hi)
 rw [this]; rfl
theorem len_tests (n : Nat) : (!decide (n = 0) && decide ((n : Int) ≤ 16)) = (decide (1 ≤ n) && decide (n ≤ 16)) := by
 rw [Bool.eq_iff_iff]; simp only [Bool.and_eq_true, Bool.not_eq_true', decide_eq_false_iff_not, decide_eq_true_eq]; omega
theorem empty_iff (s : ByteArray) : s.toList.isEmpty = decide (s.size = 0) := by
 rw [ByteArray.toList_eq, Bool.eq_iff_iff]; simp [← ByteArray.size_data]
theorem good_calls (s : ByteArray) (w : World) (hs : s.size ≤ maxLen) :
   Calls Tryz.prog 139 #[.string s] w fun e w' => e = .returned (.bool (good s)) ∧ Below w.heap.size w w' := by
 unfold maxLen at hs; have HNo := hdd (fun k hk h => @good_no s k hk h); have HAll := hdd (@good_all s); generalize good s = g at *; have hni := fun (pos : Nat) (ty : TypeId) (h : pos < s.size) => run_next_any (P := Tryz.prog) w s pos ty h
 go_enter Tryz.func139, Tryz.ntmps139
 go_wp2
 go_loopw [4] (fun _ wr => ∃ k : Nat, k ≤ s.size ∧ wr = w.iter s k ∧ ∀ j, (hj : j < s.size) → j < k → okB s[j] = true) (fun _ wr => s.size - wr.iterPos w.heap.size)
 case atStart => exact ⟨0, by omega, rfl, fun j hj h => by omega⟩
 case round =>
   obtain ⟨k, hk, rfl, hN⟩ := hrel; have HN := hdd hN; clear hN
   by_cases hlt : k < s.size
   · by_cases ha : (s[k]'hlt).toNat < 128
     · have hn := fun ty => hni k ty hlt
       rw [decode_ascii s k hlt ha] at hn; have HB := hdd (show okB (s[k]'hlt) = (decide (97 ≤ (s[k]'hlt).toNat ∧ (s[k]'hlt).toNat ≤ 122) || decide (48 ≤ (s[k]'hlt).toNat ∧ (s[k]'hlt).toNat ≤ 57) || decide ((s[k]'hlt).toNat = 45)) from rfl); have HC := hdd (fun h => HNo.out k hlt h)
       have HD := hdd (fun (h : okB (s[k]'hlt) = true) => show ∀ j, (hj : j < s.size) → j < k + 1 → okB s[j] = true from fun j hj hjk => by
         rcases Nat.lt_or_ge j k with h1 | h1
         · exact HN.out j hj h1
         · obtain rfl : j = k := by omega
           exact h)
       generalize okB (s[k]'hlt) = ob at *; generalize (s[k]'hlt).toNat = n at *; clear hni; rcases okB_cases n with h | h | h | h | h | h | h
       all_goals try subst h
       case inr.inl | inr.inr.inr.inl | inr.inr.inr.inr.inr.inl =>
         have HT : ob = true := by rw [HB.out]; simp; try omega
         have HT2 := hdd (HD.out HT); clear HT; go_wp2
         go_roundw
         case rel => exact ⟨k + 1, by omega, rfl, HT2.out⟩
         case measure => simp; omega
       all_goals
         have HT : ob = false := by rw [HB.out]; simp; try omega
         have HT2 := hdd (HC.out HT); clear HT; have hne : ((n : Int) != 45) = true := by rw [bne_iff_ne]; omega
         go_wp2; go_ret; exact ⟨ret1 (boo HT2.out.symm), (Below.refl _ w).alloc (Nat.le_refl _) _⟩
     · have hn := fun ty => hni k ty hlt
       have hd := (decode_high s k hlt (by omega)).1; have hd2 := decode_le s k
       have HB := hdd (show okB (s[k]'hlt) = false by
         unfold okB; simp only [Bool.or_eq_false_iff, decide_eq_false_iff_not]; omega)
       have HT2 := hdd (HNo.out k hlt HB.out); generalize (Utf8.decode s k).1 = r at *; generalize (Utf8.decode s k).2 = q at *; clear hni; have hne : ((r : Int) != 45) = true := by rw [bne_iff_ne]; omega
       go_wp2; go_ret; exact ⟨ret1 (boo HT2.out.symm), (Below.refl _ w).alloc (Nat.le_refl _) _⟩
   · obtain rfl : k = s.size := by omega
     have hn := fun ty => run_next_end (P := Tryz.prog) w s s.size ty (by omega)
     have HT2 := hdd (HAll.out (fun j hj => HN.out j hj hj)); clear hni; have HE := hdd (empty_iff s); go_wp2
     · have h0 : s.toList = [] := by assumption
       go_ret; refine ⟨ret1 (boo ?_), (Below.refl _ w).alloc (Nat.le_refl _) _⟩; have h1 := HE.out; rw [h0] at h1; have h2 : s.size = 0 := by simpa using h1
       rw [HT2.out, h2]; rfl
     · go_ret
       refine ⟨ret1 (boo ?_), (Below.refl _ w).alloc (Nat.le_refl _) _⟩; show (!s.toList.isEmpty && decide ((s.size : Int) ≤ 16)) = g; rw [HE.out, HT2.out]; exact len_tests _
theorem countOk_no {n : Int} (h : ¬ (0 ≤ n ∧ n ≤ 1099511627776)) : countOk n = false := by
 unfold countOk
 by_cases h1 : 0 ≤ n
 · rw [decide_eq_false (p := n ≤ 1099511627776) (by omega)]; simp
 · rw [decide_eq_false h1]; rfl
theorem count_calls (n : Int) (w : World) :
   Calls Tryz.prog 199 #[vI n] w fun e w' => e = .returned (.bool (countOk n)) ∧ w = w' := by
 have HO := hdd (show countOk n = (decide (0 ≤ n) && decide (n ≤ 1099511627776)) from rfl)
 by_cases h1 : 0 ≤ n
 all_goals
   go_enter Tryz.func199, Tryz.ntmps199
   go_wp2; go_ret
   first
     | exact ⟨ret1 (boo (countOk_no (by omega)).symm), rfl⟩
     | exact ⟨ret1 (boo (by rw [HO.out, decide_eq_true h1]; rfl)), rfl⟩
end
section
open Go.RowKit
attribute [local go_sem] Oper.semAt_some
abbrev Item := ByteArray × Int
def itemCells (l : List Item) : List Value := l.flatMap fun x => [.string x.1, vI x.2]
theorem itemCells_length (l : List Item) : (itemCells l).length = l.length * 2 := by
 induction l with
 | nil => rfl
 | cons x r ih => simp only [itemCells, List.flatMap_cons, List.length_append, List.length_cons, List.length_nil] at ih ⊢; omega
theorem itemCells_one (l : List Item) : ∀ y ∈ itemCells l, y.oneCell' = true := by
 intro y hy; obtain ⟨x, _, hx⟩ := List.mem_flatMap.1 hy; simp only [List.mem_cons, List.not_mem_nil, or_false] at hx; rcases hx with rfl | rfl <;> rfl
theorem itemCells_get : ∀ (l : List Item) (j : Nat) (hj : j < l.length), (itemCells l)[j * 2]? = some (.string l[j].1) ∧ (itemCells l)[j * 2 + 1]? = some (vI l[j].2)
 | [], j, hj => absurd hj (by simp)
 | x :: r, 0, _ => by simp [itemCells]
 | x :: r, j + 1, hj => by
   have h := itemCells_get r j (by simpa using hj); have e1 : (j + 1) * 2 = j * 2 + 1 + 1 := by omega
   have e2 : (j + 1) * 2 + 1 = j * 2 + 1 + 1 + 1 := by omega
   rw [e1]; simp only [itemCells, List.flatMap_cons, List.cons_append, List.nil_append, List.getElem?_cons_succ, List.getElem_cons_succ]; exact h
def ItemsAt (w : World) (lo B : Nat) (v : Value) (l : List Item) : Prop := Sl w lo B 2 v l.length (itemCells l)
section
variable {w w' : World} {lo lo' B B' : Nat} {v : Value} {l : List Item}
theorem ItemsAt.below (h : ItemsAt w lo B v l) (hb : Below B w w') : ItemsAt w' lo B v l := Sl.below h hb
theorem ItemsAt.mono (h : ItemsAt w lo B v l) (hb : Below B w w') (hB : B ≤ B') : ItemsAt w' lo B' v l := Sl.mono h hb hB
theorem ItemsAt.wide (h : ItemsAt w lo B v l) (hl : lo' ≤ lo) (hB : B ≤ B') : ItemsAt w lo' B' v l := Sl.wide h hl hB
theorem ItemsAt.nil (w : World) (lo B : Nat) : ItemsAt w lo B vN [] := Sl.nil w lo B 2
theorem ItemsAt.form (h : ItemsAt w lo B v l) : ∃ A c, v = .slice A l.length c ∧ l.length ≤ c ∧ c ≤ maxLen := by
 obtain ⟨A, c, e, h1, h2, _⟩ := h.at_; exact ⟨A, c, e, h1, h2⟩
theorem ItemsAt.cellAt {A : Option Addr} {n c j : Nat} (h : ItemsAt w lo B (.slice A n c) l) (hj : j < l.length) :
   ∃ b o, A = some ⟨b, o, none⟩ ∧ lo ≤ b ∧ b < B ∧ w.cell? ⟨b, o + j * 2, none⟩ = some (.string l[j].1) ∧ w.cell? ⟨b, o + j * 2 + 1, none⟩ = some (vI l[j].2) := by
 obtain ⟨A', c', e, _, _, h3⟩ := h.at_
 cases e
 obtain ⟨b, o, e1, e2, e3, e4⟩ := h3 (by omega); obtain ⟨g1, g2⟩ := itemCells_get l j hj; exact ⟨b, o, e1, e2, e3, (e4 (j * 2) (by omega)).trans g1, (e4 (j * 2 + 1) (by omega)).trans g2⟩
theorem ItemsAt.of_own {e : TypeId} {n : Nat} (h : w.ownsRow lo e 2 v n (itemCells l)) : ItemsAt w lo w.heap.size v l := by
 have hn : n = l.length := by have := h.1; rw [itemCells_length] at this; omega
 subst hn; exact Sl.of_own h
end
abbrev Of (l : List Item) := { x : Item // x ∈ l }
def enc2 {l : List Item} (x : Of l) : Array Value := #[.string x.1.1, vI x.1.2]
def firsts (l : List Item) (k : Nat) : List (Of l) := l.attach.take k
theorem firsts_succ (l : List Item) (k : Nat) (h : k < l.length) : firsts l (k + 1) = firsts l k ++ [⟨l[k], List.getElem_mem h⟩] := by
 unfold firsts; rw [List.take_succ_eq_append_getElem (by simpa using h)]; simp
theorem firsts_length (l : List Item) (k : Nat) (h : k ≤ l.length) : (firsts l k).length = k := by
 unfold firsts; simp [h]
theorem firsts_all (l : List Item) : firsts l l.length = l.attach := by
 unfold firsts; rw [List.take_of_length_le (by simp)]
theorem all1_in (F : Fence) (n : Nat) (hf : F.fn 203) (hro : F.round = none) (hn : 1 ≤ n) (l Bs n₀ c : Nat) (A : Option Addr) (L : List Item) (hc1 : L.length ≤ c) (hc2 : c ≤ maxLen) (J Jx : List (Of L) → World → Prop)
   (W : World) (hn₀ : n₀ ≤ W.heap.size) (hJ : AbidesFrom W.heap.size J)
   (hY : ∀ pre x W, J pre W → pre.length < L.length → YieldAt F (n - 1) Tryz.prog l (enc2 x) W fun e W' =>
     (e = .returned (.bool true) ∧ J (pre ++ [x]) W' ∧ Below n₀ W W') ∨ (e = .returned (.bool false) ∧ Jx (pre ++ [x]) W'))
   (hBs : W.cell? ⟨Bs, 0, none⟩ = some (.slice A L.length c)) (hI : ItemsAt W 0 n₀ (.slice A L.length c) L) (h0 : J [] W) :
   CallsIn F n Tryz.prog 203 #[.func (.yield l) #[] #[], .pointer (some ⟨Bs, 0, none⟩)] W fun e W' => (∃ v, e = .returned v) ∧
     ((∃ ys, ys = L.attach ∧ J ys W') ∨ (∃ pre, pre <+: L.attach ∧ Jx pre W')) := by
 unfold maxLen at hc2; refine callsIn_of_wp Tryz.func203 rfl hf ?_ hro; simp only [Tryz.ntmps203, List.size_toArray, List.length_cons, List.length_nil, Nat.reduceAdd, Nat.reduceSub, Array.replicate_succ, Array.replicate_zero, List.push_toArray, List.append_toArray, List.nil_append, List.cons_append]; gi_wp2
 gi_loopw [4, 7] (fun _ i wr => ∃ k : Nat, k ≤ L.length ∧ i = vI k ∧ J (firsts L k) wr ∧ Below n₀ W wr) (fun _ i _ => L.length - (intOf i).toNat)
 case atStart => exact ⟨0, by omega, rfl, h0, Below.refl _ _⟩
 case round =>
   obtain ⟨k, hk, rfl, hJs, hb⟩ := hrel
   by_cases hlt : k < L.length
   · obtain ⟨b, o, rfl, _, hbn, hs, hi⟩ := (hI.below hb).cellAt hlt
     have hsz : n₀ ≤ wr.heap.size := by have := hb.size; omega
     have hJ' : J (firsts L k) (wr.alloc (.cells #[.string L[k].1, vI L[k].2] 29)) := hJ _ _ _ none hJs (World.grownBy_alloc _ _ none) (fun r e => by cases e); obtain ⟨fn, tmps, assign, body, hy, hR⟩ := hY _ ⟨L[k], List.getElem_mem hlt⟩ _ hJ' (by rw [firsts_length _ _ hk]; exact hlt); dsimp only [enc2] at hy; gi_wp2; refine hR.mono ?_; rintro e W3 (⟨rfl, hJ3, hk3⟩ | ⟨rfl, hJx3⟩)
     · gi_wp2
       go_roundw
       case rel => exact ⟨k + 1, by omega, by go_num, by rw [firsts_succ L k hlt]; exact hJ3, hb.trans (((Below.refl _ wr).alloc hsz _).trans hk3)⟩
       case measure => simp [intOf]; omega
     · gi_wp2
       refine bodyPost_ret (results_none rfl _ _ _) rfl ?_; exact ⟨⟨_, rfl⟩, .inr ⟨_, by rw [← firsts_succ L k hlt]; exact List.take_prefix _ _, hJx3⟩⟩
   · obtain rfl : k = L.length := by omega
     gi_wp2; go_end0; exact ⟨⟨_, rfl⟩, .inl ⟨_, rfl, by rw [← firsts_all]; exact hJs⟩⟩
theorem all_calls (A : Option Addr) (n c : Nat) (w : World) :
   Calls Tryz.prog 144 #[.slice A n c] w fun e w' => e = .returned (.func (.func 203) #[] #[.pointer (some ⟨w.heap.size, 0, none⟩)]) ∧ w.alloc (.cells #[.slice A n c] 30) = w' := by
 go_enter Tryz.func144, Tryz.ntmps144
 go_wp2; go_ret; exact ⟨rfl, rfl⟩
theorem all_stops (F : Fence) (n : Nat) (hf : F.fn 203) (hro : F.round = none) (hn : 1 ≤ n) (Bs n₀ : Nat) (v : Value) (L : List Item) (w : World) (hBs : Bs < w.heap.size) (hn₀ : n₀ ≤ w.heap.size)
   (hc : w.cell? ⟨Bs, 0, none⟩ = some v) (hI : ItemsAt w 0 n₀ v L) :
   SeqStopsK F n Tryz.prog 203 #[.pointer (some ⟨Bs, 0, none⟩)] (enc2 (l := L)) (Below n₀) (fun ys => ys = L.attach) (fun pre => pre <+: L.attach) L.length w := fun l J Jx W hW hJ _ hY h0 => by
 obtain ⟨A, c, rfl, h1, h2⟩ := hI.form; exact all1_in F n hf hro hn l Bs n₀ c A L h1 h2 J Jx W (Nat.le_trans hn₀ hW.size) hJ hY ((hW.cell (p := ⟨Bs, 0, none⟩) hBs).trans hc) (hI.below (hW.mono hn₀)) h0
end
section
open Go.RowKit
attribute [local go_sem] Oper.semAt_some
def rpost {α : Type} (B n₀ : Nat) (C : List α → World → Prop) (Cx : Code → List α → World → Prop) (xs : List α) (W : World) : Exit → Act → World → Prop
 | .normal, _, W' => KeepsFrom B W W' ∧ Below n₀ W W' ∧ C xs W'
 | .ret, _, W' => KeepsFrom B W W' ∧ Below n₀ W W' ∧ Cx .ret xs W'
 | .exit id, _, W' => KeepsFrom B W W' ∧ Below n₀ W W' ∧ Cx (.exit id) xs W'
 | .goto t, _, W' => KeepsFrom B W W' ∧ Below n₀ W W' ∧ Cx (.goto t) xs W'
 | .panic _, _, _ => False
 | .outgrown, _, _ => False
theorem range_all {F : Fence} {n : Nat} {g : Operand} {ps : Array Tmp} {assign body : Code} {Q : Exit → Act → World → Prop} {a : Act} {w : World}
   (hro : F.round = none) (hf : F.fn 203) (hn : 2 ≤ n) {Bs n₀ : Nat} {v : Value} {L : List Item} (hg : a.eval g = .func (.func 203) #[] #[.pointer (some ⟨Bs, 0, none⟩)]) (hps : ps.size = 2)
   (hBs : Bs < w.heap.size) (hn₀ : n₀ ≤ w.heap.size) (hc : w.cell? ⟨Bs, 0, none⟩ = some v) (hI : ItemsAt w 0 n₀ v L)
   (C : List (Of L) → World → Prop) (Cx : Code → List (Of L) → World → Prop) (hC : OwnFrom w.heap.size C) (hCx : ∀ c, OwnFrom w.heap.size (Cx c)) (h0 : C [] w) (a₁ : Of L → Act)
   (hassign : ∀ (l : Nat) (x : Of L) (W : World) (K : Act → World → Prop), K (a₁ x) W →
     assign.wpIn (F.inRound l) (n - 1 - 1) Tryz.prog (Exit.then K (fun _ _ _ => False)) { tmps := (ps.zip (enc2 x)).foldl (fun t (p, v) => t.setIfInBounds p v) a.tmps, defers := [] } W)
   (hbody : ∀ (l : Nat) (pre : List (Of L)) (x : Of L) (W : World), C pre W → Below n₀ w W → w.heap.size ≤ W.heap.size → pre.length < L.length → body.wpIn (F.inRound l) (n - 1 - 1) Tryz.prog (rpost w.heap.size n₀ C Cx (pre ++ [x]) W) (a₁ x) W)
   (hdone : ∀ (D : Nat) (W : World), w.heap.size ≤ D → C L.attach W → Below n₀ w W → W.heap[D]? = some (.deferred (some [])) → Q .normal { a with defers := { target := .collected D, args := #[] } :: a.defers } W)
   (hstop : ∀ (D : Nat) (c : Code) (pre : List (Of L)) (W : World), w.heap.size ≤ D → pre <+: L.attach → Cx c pre W → Below n₀ w W → W.heap[D]? = some (.deferred (some [])) → c.wpIn F n Tryz.prog Q { a with defers := { target := .collected D, args := #[] } :: a.defers } W) :
   (Code.rangeFunc g ps assign body).wpIn F n Tryz.prog Q a w :=
 wpIn_rangeFunc_ownG hro (by omega) hg hf (enters_of Tryz.func203 (by kernel_rfl) rfl)
   (all_stops F (n - 1) hf hro (by omega) Bs n₀ v L w hBs hn₀ hc hI) belowK_t (belowK_b hn₀) (Below.refl _ _) (fun _ => hps.symm)
   (fun pre W => C pre W ∧ Below n₀ w W) (fun c pre W => Cx c pre W ∧ Below n₀ w W)
   (OwnFrom.and hC (ownFrom_below hn₀ hn₀)) (fun c => OwnFrom.and (hCx c) (ownFrom_below hn₀ hn₀))
   ⟨h0, Below.refl _ _⟩ a₁ hassign
   (fun l pre x W ⟨hc, hb⟩ hl => wpIn_mono (hbody l pre x W hc hb hb.size hl) (fun e a' W' h => by
     cases e with
     | normal => exact ⟨h.1, h.2.1, h.2.2, hb.trans h.2.1⟩
     | ret => exact ⟨h.1, h.2.2, hb.trans h.2.1⟩
     | exit id => exact ⟨h.1, h.2.2, hb.trans h.2.1⟩
     | goto t => exact ⟨h.1, h.2.2, hb.trans h.2.1⟩
     | panic ch => exact h.elim
     | outgrown => exact h.elim))
   (fun D xs W hD hS ⟨hc, hb⟩ hK => by subst hS; exact hdone D W hD hc hb hK)
   (fun D c pre W hD hp ⟨hc, hb⟩ hK => hstop D c pre W hD hp hc hb hK)
theorem boxed_keep {A B : World} {row : Option Nat} {b : Nat} {t : TypeId} {v : Value} (h : Boxed A b t v) (hg : A.grownBy B row) (hr : ∀ r, row = some r → ∃ o : Obj, A.heap[r]? = some o ∧ o.isCells = false) : Boxed B b t v :=
 boxed_own b t (fun _ : Unit => v) () A B row h hg hr
theorem row_keep {A B : World} {row : Option Nat} {lo : Nat} {e : TypeId} {size n : Nat} {v : Value} {xs : List Value} (h : A.ownsRow lo e size v n xs) (hg : A.grownBy B row) (hr : ∀ r, row = some r → ∃ o : Obj, A.heap[r]? = some o ∧ o.isCells = false) : B.ownsRow lo e size v n xs := by
 refine h.kept hg ?_
 cases hv : v.ownBlock with
 | none => exact .inl rfl
 | some g =>
   refine .inr fun e => ?_
   obtain ⟨o, ho, hc⟩ := hr g e.symm; rcases h.2 with ⟨rfl, _⟩ | ⟨g', cap, cur, rfl, _, hg', _⟩
   · simp [Value.ownBlock] at hv
   · simp [Value.ownBlock] at hv
     subst hv; rw [hg'] at ho
     cases ho
     cases hc
theorem boxed_below {A B : World} {b : Nat} {t : TypeId} {v : Value} (h : Boxed A b t v) (hb : Below A.heap.size A B) : Boxed B b t v := (hb.block b h.lt).trans h
theorem keeps_below {A B : World} (n : Nat) (hb : Below A.heap.size A B) : KeepsFrom n A B :=
 ⟨hb.size, fun k _ _ hk _ => (hb.block k (Array.getElem?_eq_some_iff.1 hk).1).trans hk⟩
theorem keeps_set {A B : World} {n : Nat} (h : KeepsFrom n A B) (a : Addr) (v : Value) : KeepsFrom n A (B.setCell a v) := h.trans ((KeepsOthers.setCell _ _ _).from _)
theorem boxed_end {W : World} {D b : Nat} {t : TypeId} {v : Value} (h : Boxed W b t v) (hK : W.heap[D]? = some (.deferred (some []))) : Boxed (W.putObj D (.deferred none)) b t v :=
 boxed_keep h (grownBy_putObj' _ D (.deferred none)) (fun r e => by cases e; exact ⟨_, hK, rfl⟩)
theorem below_end {w W : World} {D : Nat} (h : Below w.heap.size w W) (hD : w.heap.size ≤ D) (hK : W.heap[D]? = some (.deferred (some []))) : Below w.heap.size w (W.putObj D (.deferred none)) :=
 h.trans (belowK_b (w := w) (Nat.le_refl _) W D _ _ hD hK rfl rfl)
end
end It
namespace Ro
section
open Go.RowKit
section
variable {δ : Type} {F : Fence} {n : Nat} {P : Program}
def Reads (F : Fence) (n : Nat) (P : Program) (gf : Nat) (lb : Array Value) (Rd : δ → Value → World → Prop) (Kp : World → World → Prop) (S Sp : List δ → Prop) (T : List δ → δ → Prop) (w : World) : Prop :=
 ∀ (l : Nat) (J Jx : List δ → World → Prop) (W : World), Below w.heap.size w W → OwnFrom W.heap.size J → OwnFrom W.heap.size Jx →
   (∀ pre d v W1, J pre W1 → T pre d → Rd d v W1 → YieldAt F (n - 1) P l #[v] W1 fun e W' => (e = .returned (.bool true) ∧ J (pre ++ [d]) W' ∧ Kp W1 W') ∨ (e = .returned (.bool false) ∧ Jx (pre ++ [d]) W' ∧ KeepsFrom W.heap.size W1 W')) →
   J [] W →
   CallsIn F n P gf (#[.func (.yield l) #[] #[]] ++ lb) W fun e W' => (∃ v, e = .returned v) ∧ ((∃ xs, S xs ∧ J xs W') ∨ (∃ pre, Sp pre ∧ Jx pre W'))
structure Bk (D l : Nat) (r : Loop) (W : World) : Prop where
 loop : W.heap[l]? = some (.loop r)
 mark : W.heap[D]? = some (.deferred (some []))
theorem Bk.lt {D l : Nat} {r : Loop} {W : World} (h : Bk D l r W) : l < W.heap.size ∧ D < W.heap.size := ⟨(Array.getElem?_eq_some_iff.1 h.loop).1, (Array.getElem?_eq_some_iff.1 h.mark).1⟩
theorem Bk.abide {D l B0 : Nat} {r : Loop} {A B : World} {row : Option Nat} (h : Bk D l r A) (hg : A.grownBy B row) (hD : D < B0) (hl : l < B0) (hr : ∀ k, row = some k → B0 ≤ k ∧ ∃ o : Obj, A.heap[k]? = some o ∧ o.isCells = false) : Bk D l r B :=
 ⟨(hg.block l h.lt.1 (fun e => by have := (hr l e.symm).1; omega)).trans h.loop, (hg.block D h.lt.2 (fun e => by have := (hr D e.symm).1; omega)).trans h.mark⟩
theorem Bk.keeps {D l B : Nat} {r : Loop} {X Y : World} (h : Bk D l r X) (hk : KeepsFrom B X Y) (hD : B ≤ D) (hl : B ≤ l) : Bk D l r Y :=
 ⟨hk.same _ _ hl h.loop rfl, hk.same _ _ hD h.mark rfl⟩
theorem Bk.turn {D l : Nat} {r : Loop} {W : World} (h : Bk D l r W) (hne : D ≠ l) (r' : Loop) : Bk D l r' (W.putObj l (.loop r')) :=
 ⟨World.putObj_heap_same h.lt.1, (World.putObj_heap_other hne).trans h.mark⟩
def rpost (B : Nat) (Kp : World → World → Prop) (I : List δ → World → Prop) (Ix : Code → List δ → World → Prop) (xs : List δ) (W : World) : Exit → Act → World → Prop
 | .normal, _, W' => KeepsFrom B W W' ∧ Kp W W' ∧ I xs W'
 | .ret, _, W' => KeepsFrom B W W' ∧ Ix .ret xs W'
 | .exit id, _, W' => KeepsFrom B W W' ∧ Ix (.exit id) xs W'
 | .goto t, _, W' => KeepsFrom B W W' ∧ Ix (.goto t) xs W'
 | .panic _, _, _ => False
 | .outgrown, _, _ => False
theorem range_reads {g : Operand} {ps : Array Tmp} {assign body : Code} {Q : Exit → Act → World → Prop} {a : Act} {w : World}
   (hro : F.round = none) (h1 : 1 ≤ n) {gf : Nat} {lb : Array Value} (hg : a.eval g = .func (.func gf) #[] lb) (hFg : F.fn gf) (eg : ∀ args w, (callFunc gf args).run P w = .ok (.enter gf args) w)
   {Rd : δ → Value → World → Prop} {Kp : World → World → Prop} {S Sp : List δ → Prop} {T : List δ → δ → Prop} {w0 : World} (hit : Reads F (n - 1) P gf lb Rd Kp S Sp T w0) (hb0 : Below w0.heap.size w0 w)
   (hKt : ∀ {A B C : World}, Kp A B → Kp B C → Kp A C) (hKb : ∀ (W : World) (l : Nat) (r r' : Loop), w.heap.size ≤ l → W.heap[l]? = some (.loop r) → Kp W (W.putObj l (.loop r'))) (hps : ps.size = 1)
   (I : List δ → World → Prop) (Ix : Code → List δ → World → Prop) (hI : OwnFrom w.heap.size I) (hIx : ∀ c, OwnFrom w.heap.size (Ix c)) (h0 : I [] w)
   (hround : ∀ (l : Nat) (pre : List δ) (d : δ) (v : Value) (W : World), w.heap.size ≤ l → I pre W → T pre d → Rd d v W →
     assign.wpIn (F.inRound l) (n - 1 - 1) P (Exit.then (fun a' W' => KeepsFrom w.heap.size W W' ∧ Kp W W' ∧
       ∀ (W2 : World), W'.grownBy W2 (some l) → (∃ o : Obj, W'.heap[l]? = some o ∧ o.isCells = false) → body.wpIn (F.inRound l) (n - 1 - 1) P (rpost w.heap.size Kp I Ix (pre ++ [d]) W2) a' W2) (fun _ _ _ => False))
       { tmps := (ps.zip #[v]).foldl (fun t (p, v) => t.setIfInBounds p v) a.tmps, defers := [] } W)
   (hdone : ∀ (D : Nat) (xs : List δ) (W : World), w.heap.size ≤ D → S xs → I xs W → W.heap[D]? = some (.deferred (some [])) → Q .normal { a with defers := { target := .collected D, args := #[] } :: a.defers } W)
   (hstop : ∀ (D : Nat) (c : Code) (pre : List δ) (W : World), w.heap.size ≤ D → Sp pre → Ix c pre W → W.heap[D]? = some (.deferred (some [])) → c.wpIn F n P Q { a with defers := { target := .collected D, args := #[] } :: a.defers } W) :
   (Code.rangeFunc g ps assign body).wpIn F n P Q a w := by
 refine wpIn_rangeFunc fun fn hfn => ?_
 obtain ⟨mk, hmk⟩ : ∃ mk : LoopState → Option Code → Loop, mk = fun st pe => { state := st, pending := pe, fn := fn, tmps := a.tmps, params := ps, assign := assign, body := body, defers := w.heap.size } := ⟨_, rfl⟩
 obtain ⟨D, hD⟩ : ∃ D, D = w.heap.size := ⟨_, rfl⟩; obtain ⟨V, hV⟩ : ∃ V : World, V = (w.alloc (.deferred (some []))).alloc (.loop (mk .ready none)) := ⟨_, rfl⟩
 have hbk : Bk D (D + 1) (mk .ready none) V := by
   rw [hV, hD]; refine ⟨?_, (Below.heap_alloc _ _ _ (by simp)).trans (World.alloc_heap_new w _)⟩; have := World.alloc_heap_new (w.alloc (.deferred (some []))) (.loop (mk .ready none))
   rwa [World.size_alloc] at this
 have hIV : I [] V := by rw [hV]; exact hI.alloc _ (hI.alloc _ h0)
 have hbV : Below w0.heap.size w0 V := by
   rw [hV]; exact hb0.trans ((((Below.refl _ w).alloc (Nat.le_refl _) _).alloc (by simp) _).mono hb0.size)
 have hVs : w.heap.size ≤ V.heap.size := by rw [hV]; simp; omega
 refine ⟨D + 1, [{ target := .collected D, args := #[] }], V, { target := .fn (.func gf) lb, args := #[.func (.yield (D + 1)) #[] #[]] }, V, gf, #[.func (.yield (D + 1)) #[] #[]] ++ lb, V, ?_, ?_, ?_, ?_, fun _ => h1, ?_⟩
 · rw [hro, hV, hmk, hD]; exact run_enterLoop_outer _ _ _ _ _
 · simp only [resolve, hg]
   simp [go_sem]
 · intro f' hf'
   simp [Target.leads] at hf'; subst hf'; exact hFg
 · simp [invoke, go_sem, eg]
 have hVD : D < V.heap.size ∧ D + 1 < V.heap.size := ⟨hbk.lt.2, hbk.lt.1⟩
 have walkRow : ∀ {A : World} {row : Option Nat}, (∀ r, row = some r → V.heap.size ≤ r ∧ ∃ o : Obj, A.heap[r]? = some o ∧ o.isCells = false) → (∀ r, row = some r → w.heap.size ≤ r ∧ ∃ o : Obj, A.heap[r]? = some o ∧ o.isCells = false) :=
   fun hr r e => by
     obtain ⟨h1, o, h2, h3⟩ := hr r e; exact ⟨Nat.le_trans hVs h1, o, h2, h3⟩
 refine (hit (D + 1) (fun pre W => I pre W ∧ Bk D (D + 1) (mk .ready none) W) (fun pre W => ∃ c, Ix c pre W ∧ Bk D (D + 1) (mk .done (some c)) W) V hbV
   (fun s A B row h hg hr => ⟨hI s A B row h.1 hg (walkRow hr), h.2.abide hg hVD.1 hVD.2 hr⟩)
   (fun s A B row h hg hr => let ⟨c, h1, h2⟩ := h; ⟨c, hIx c s A B row h1 hg (walkRow hr), h2.abide hg hVD.1 hVD.2 hr⟩)
   (fun pre d v W hJ hlen hrd => ?_) ⟨hIV, hbk⟩).mono ?_
 ·
   obtain ⟨hi, hk⟩ := hJ; have hsz : #[v].size = (mk .ready none).params.size := by rw [hmk]; exact hps.symm
   have hy := run_yield (P := P) (args := #[v]) hk.loop hsz; rw [hmk] at hy; refine ⟨fn, _, assign, body, hy, roundIn_of_wpIn hfn (wpIn_mono (hround (D + 1) pre d v W (by omega) hi hlen hrd) fun e a1 W1 h => ?_)⟩
   cases e with
   | normal =>
     obtain ⟨hk1, hkp1, hbody⟩ := h; have hb1 := hk.keeps hk1 (by omega) (by omega); have hst : (mk .ready none).state = .ready := by rw [hmk]
     refine ⟨_, run_beginRound hb1.loop hst, ?_⟩; have hb2 := hb1.turn (by omega) { mk .ready none with state := .busy }; have hkb2 : Kp W1 (W1.putObj (D + 1) (.loop { mk .ready none with state := .busy })) := hKb _ _ _ _ (by omega) hb1.loop; refine wpIn_mono (hbody _ (grownBy_putObj' _ _ _) ⟨_, hb1.loop, rfl⟩) fun e a3 W3 h3 => ?_
     have keepsAll : ∀ {j : LoopState} {pj : Option Code} (W3 W4 : World), KeepsFrom w.heap.size (W1.putObj (D + 1) (.loop { mk .ready none with state := .busy })) W3 → W4 = W3.putObj (D + 1) (.loop (mk j pj)) → KeepsFrom V.heap.size W W4 := fun W3 W4 hk3 e4 => by
       subst e4; have hsz := hk1.size; have hsz3 := hk3.size; refine ⟨by simp at hsz3 ⊢; omega, fun k o hk ho hc => ?_⟩; have h1 := hk1.same k o (by omega) ho hc; have h2 : (W1.putObj (D + 1) (.loop { mk .ready none with state := .busy })).heap[k]? = some o := (World.putObj_heap_other (by omega)).trans h1; have h3 := hk3.same k o (by omega) h2 hc; exact (World.putObj_heap_other (by omega)).trans h3
     have fin : ∀ (j : Option Code), KeepsFrom w.heap.size (W1.putObj (D + 1) (.loop { mk .ready none with state := .busy })) W3 → ∃ W4, (Instr.endRound (D + 1) j).run P W3 = .ok (.bool j.isNone) W4 ∧ Bk D (D + 1) (mk (if j.isNone then .ready else .done) j) W4 ∧ W4 = W3.putObj (D + 1) (.loop (mk (if j.isNone then .ready else .done) j)) ∧
         W3.heap[D + 1]? = some (.loop { mk .ready none with state := .busy }) := fun j hk3 => by
       have hb3 := hb2.keeps hk3 (by omega) (by omega); have hr := run_endRound (P := P) j hb3.loop; refine ⟨_, hr, ?_, ?_, hb3.loop⟩
       · have := hb3.turn (by omega) { mk .ready none with state := if j.isNone then .ready else .done, pending := j }
         rw [hmk] at this ⊢; exact this
       · rw [hmk]
     cases e with
     | normal =>
       obtain ⟨hk3, hkp3, hi3⟩ := h3; obtain ⟨W4, hr, hb4, e4, hl3⟩ := fin none hk3; exact ⟨_, W4, hr, .inl ⟨rfl, ⟨by rw [e4]; exact hI.putObj _ hi3 (by omega) hl3 rfl, hb4⟩, hKt hkp1 (hKt hkb2 (hKt hkp3 (by rw [e4]; exact hKb _ _ _ _ (by omega) hl3)))⟩⟩
     | ret =>
       obtain ⟨hk3, hi3⟩ := h3; obtain ⟨W4, hr, hb4, e4, hl3⟩ := fin (some .ret) hk3; exact ⟨_, W4, hr, .inr ⟨rfl, ⟨.ret, by rw [e4]; exact (hIx _).putObj _ hi3 (by omega) hl3 rfl, hb4⟩, keepsAll W3 W4 hk3 e4⟩⟩
     | exit id =>
       obtain ⟨hk3, hi3⟩ := h3; obtain ⟨W4, hr, hb4, e4, hl3⟩ := fin (some (.exit id)) hk3; exact ⟨_, W4, hr, .inr ⟨rfl, ⟨.exit id, by rw [e4]; exact (hIx _).putObj _ hi3 (by omega) hl3 rfl, hb4⟩, keepsAll W3 W4 hk3 e4⟩⟩
     | goto t =>
       obtain ⟨hk3, hi3⟩ := h3; obtain ⟨W4, hr, hb4, e4, hl3⟩ := fin (some (.goto t)) hk3; exact ⟨_, W4, hr, .inr ⟨rfl, ⟨.goto t, by rw [e4]; exact (hIx _).putObj _ hi3 (by omega) hl3 rfl, hb4⟩, keepsAll W3 W4 hk3 e4⟩⟩
     | panic ch => exact h3.elim
     | outgrown => exact h3.elim
   | ret => exact h.elim
   | exit id => exact h.elim
   | goto t => exact h.elim
   | panic ch => exact h.elim
   | outgrown => exact h.elim
 ·
   rintro e W2 ⟨⟨v, rfl⟩, hend⟩; rcases hend with ⟨xs, hS, hi, hk⟩ | ⟨pre, hSp, c, hi, hk⟩
   · have hr := run_endLoop (P := P) hk.loop (by rw [hmk]; simp)
     rw [hmk] at hr; exact ⟨none, _, hr, hdone D xs _ (by omega) hS (hI.putObj _ hi (by omega) hk.loop rfl) ((World.putObj_heap_other (by omega)).trans hk.mark)⟩
   · have hr := run_endLoop (P := P) hk.loop (by rw [hmk]; simp)
     rw [hmk] at hr; exact ⟨some c, _, hr, hstop D c pre _ (by omega) hSp ((hIx c).putObj _ hi (by omega) hk.loop rfl) ((World.putObj_heap_other (by omega)).trans hk.mark)⟩
end
end
end Ro
namespace Pi
section
open Go.RowKit
open Pu
section
variable {P : Program} {ops : Array Oper} {Q : Exit → Act → World → Prop} {md : Region.Mode} {l n : Nat}
structure OnlyN (Q : Exit → Act → World → Prop) (e : Exit) (a : Act) (w : World) : Prop where
 e : e = .normal
 q : Q .normal a w
theorem OnlyN.out {a : Act} {w : World} (h : Q .normal a w) : OnlyN Q .normal a w := ⟨rfl, h⟩
theorem no_out : ¬ LetsOut (OnlyN Q) := fun ⟨_, _, h⟩ => by cases h.e
theorem op_in {o : Oper} {a : Act} {w : World} {K : Act → World → Prop} (hnd : ∀ c, o.op ≠ .defer c) (h : o.wp P a w K (OnlyN Q) ∨ (o.asks P a w ∧ LetsOut (OnlyN Q))) : o.wpIn (Fence.wide.inRound l) n P a w K (OnlyN Q) := by
 rcases h with h | ⟨_, h⟩
 case inr => exact (no_out h).elim
 refine ⟨fun _ _ => trivial, ?_⟩; rw [Oper.semAt_eq _ _ _ hnd]; unfold Oper.wp at h; generalize (execOp a.eval o).run P w = r at *
 cases r with
 | ok x w' =>
   cases x <;> simp only [Oper.upon] at h <;> simp only [Oper.uponIn]
   case value v => exact h
   case skip => exact h
   case defer d => exact h
   case enter f args => exact ⟨(fun hh => by cases hh), (callsIn_wide (n := n - 1)).2 h⟩
   case row row args =>
     refine ⟨(fun hh => by cases hh), fun c cs _ => ?_⟩; obtain ⟨v, w', r, s⟩ := h c cs; exact ⟨v, w', r, stepsIn_wide.2 s⟩
 | halt x w' =>
   cases x <;> simp only [Oper.upon] at h
   case panic u => cases h.e
theorem any_in (hnd : ∀ (i : Nat) (o : Oper), ops[i]? = some o → ∀ c, o.op ≠ .defer c) : ∀ (m : Nat) (listed : Array Bool) (a : Act) (w : World), wpAny P md ops (OnlyN Q) m listed a w → wpAnyIn (Fence.wide.inRound l) n P md ops (OnlyN Q) m listed a w := by
 intro m
 induction m with
 | zero => exact fun _ _ _ h => h
 | succ m ih =>
   intro listed a w h; refine ⟨h.1, fun i hi => ?_⟩; have h1 := h.2 i hi; unfold wpOp at h1; unfold wpOpIn
   cases ho : ops[i]? with
   | none =>
     rw [ho] at h1; exact ih _ _ _ h1
   | some o =>
     rw [ho] at h1; dsimp only at h1 ⊢
     split
     · rename_i hw
       rw [if_pos hw] at h1; refine op_in (hnd i o ho) ?_; rcases h1 with h1 | h1
       · exact .inl (Oper.wp_mono (fun a w h => ih _ _ _ h) h1)
       · exact .inr h1
     · rename_i hw
       rw [if_neg hw] at h1; exact ⟨fun _ _ => trivial, ih _ _ _ h1⟩
def noDefer (ops : Array Oper) : Bool := ops.toList.all fun o => match o.op with | .defer _ => false | _ => true
theorem noDefer_at (h : noDefer ops = true) (i : Nat) (o : Oper) (ho : ops[i]? = some o) (c : Call) : o.op ≠ .defer c := by
 intro e; have := List.all_eq_true.1 h o (by rw [Array.getElem?_eq_some_iff] at ho; obtain ⟨hi, rfl⟩ := ho; simp); rw [e] at this
 cases this
theorem regionIn {id : Nat} {a : Act} {w : World} (ord : List (Nat × Bool)) (B : World → Prop) (hm : P.follows .mixedOrders = true) (hf : fine .any ops = true) (hok : okM .any ops ord = true) (hwh : whole ops ord = true) (hd : noDefer ops = true) (hB : B w.drew)
   {l' : List (Oper × Bool)} (hl : named ops ord = l') (hs : WalkM P ops (OnlyN Q) l' a B (fun W => W = w.drew)) : (Code.region id ops true).wpIn (Fence.wide.inRound l) n P Q a w := by
 subst hl; refine Go.wpIn_mono (Q := OnlyN Q) ?_ fun e a w h => by rw [h.e]; exact h.q
 refine wpIn_region_any hm (any_in (noDefer_at hd) _ _ _ _ ?_)
 have h := run_made (md := .any) (P := P) (Q := OnlyN Q) rfl hf ops.size (List.range ops.size) (Array.replicate ops.size false) a a w.drew B (fun W => W = w.drew) ord [] (by simp) (by simp) List.nodup_range (fun j => ?_) (fun j hj => ?_) (fun p hp => ?_) ⟨rfl, rfl, fun _ _ => rfl⟩ rfl
   ⟨fun W h => h ▸ hB, (fun i hi => nomatch hi), (fun i hi => nomatch hi), (fun i hi => nomatch hi), (fun i hi => nomatch hi), hok, hs.go⟩
 · exact h
 · rw [List.mem_range]
   by_cases h : j < ops.size
   · simp [h]
   · simp [h]
 · right
   have hjs : j < ops.size := by
     rcases Nat.lt_or_ge j ops.size with h | h
     · exact h
     · simp [h] at hj
   have := List.all_eq_true.1 hwh j (List.mem_range.2 hjs); obtain ⟨p, hp, hpj⟩ := List.any_eq_true.1 this; exact ⟨p, hp, by simpa using hpj⟩
 · have hlt : p.1 < ops.size := by
     clear hs hwh
     induction ord with
     | nil => cases hp
     | cons q r ih =>
       obtain ⟨o, ho, _, _, _, _, _, g6⟩ := okM_cons (i := q.1) (b := q.2) hok; rcases List.mem_cons.1 hp with rfl | hp
       · exact (Array.getElem?_eq_some_iff.1 ho).1
       · exact ih g6 hp
   simp [hlt]
end
end
end Pi
namespace Wa
section
open Go.RowKit Go.Maps
open Ce Se
attribute [local go_sem] Oper.semAt_some
def KpF (Fr : Nat → Prop) (A B : World) : Prop := A.heap.size ≤ B.heap.size ∧ ∀ i, Fr i → B.heap[i]? = A.heap[i]?
theorem KpF.refl (Fr : Nat → Prop) (A : World) : KpF Fr A A := ⟨Nat.le_refl _, fun _ _ => rfl⟩
theorem KpF.trans {Fr : Nat → Prop} {A B C : World} (h : KpF Fr A B) (k : KpF Fr B C) : KpF Fr A C := ⟨Nat.le_trans h.1 k.1, fun i hi => (k.2 i hi).trans (h.2 i hi)⟩
theorem KpF.loop {Fr : Nat → Prop} {W : World} {l : Nat} {r : Loop} (h : ∀ i, Fr i → i < l) : KpF Fr W (W.putObj l (.loop r)) := by
 refine ⟨by simp, fun i hi => World.putObj_heap_other ?_⟩; have := h i hi; omega
theorem KpF.of_kept {Fr Fr' : Nat → Prop} {A B : World} (h : Kept Fr' A B) (hr : ∀ i, Fr i → Fr' i) : KpF Fr A B := ⟨h.size, fun i hi => h.block i (hr i hi)⟩
theorem KpF.ob {Fr : Nat → Prop} {A B : World} {b : Nat} {t : TypeId} {cs : Array Value} (h : KpF Fr A B) (ho : Ob A b t cs) (hx : Fr b) : Ob B b t cs := (h.2 b hx).trans ho
theorem KpF.sl {Fr : Nat → Prop} {A B : World} {lo hi size n : Nat} {v : Value} {xs : List Value} (h : KpF Fr A B) (hs : Sl A lo hi size v n xs) (hx : ∀ i, lo ≤ i → i < hi → Fr i) : Sl B lo hi size v n xs :=
 hs.keep fun b _ h1 h2 => World.cell?_of_block (h.2 b (hx b h1 h2))
def part (L : List UInt8) (k : Nat) : List UInt8 := (L.drop (63 * k)).take 63
def partsOf (L : List UInt8) : List (List UInt8) := (List.range (nch L)).map (part L)
theorem partsOf_len (L : List UInt8) : (partsOf L).length = nch L := by simp [partsOf]
theorem partsOf_get (L : List UInt8) {k : Nat} (hk : k < (partsOf L).length) : (partsOf L)[k] = part L k := by simp [partsOf]
theorem part_len (L : List UInt8) (k : Nat) : (part L k).length = min 63 (L.length - 63 * k) := by simp [part]
theorem nch_lt {L : List UInt8} {k : Nat} : k < nch L ↔ 63 * k < L.length := by unfold nch; omega
theorem chunk_reads (n : Nat) (hn : 1 ≤ n) (c1 c2 : Nat) (A : Option Addr) (c : Nat) (L : List UInt8) (lo hi : Nat) (w : World) (h1 : Ob w c1 35 #[.slice A L.length c]) (h2 : Ob w c2 3 #[vI 63]) (hL : BytesAt w lo hi (.slice A L.length c) L) (hhi : hi ≤ w.heap.size) (hl : L.length ≤ 1000000) :
   Ro.Reads Fence.wide n Tryz.prog 187 #[.pointer (some ⟨c1, 0, none⟩), .pointer (some ⟨c2, 0, none⟩)] (fun d v W => BytesAt W lo hi v d) (KpF fun i => i = c1 ∨ i = c2 ∨ (lo ≤ i ∧ i < hi)) (fun xs => xs = partsOf L) (fun pre => pre <+: partsOf L) (fun pre d => pre ++ [d] <+: partsOf L) w := by
 intro l J Jx W hW hJ hJx hY h0; have g1 := h1.same hW; have g2 := h2.same hW; have gL := hL.below (hW.mono hhi); have hws := hW.size; have hPL := partsOf_len L; obtain ⟨A', c', e', hc1, hc2⟩ := hL.form
 cases e'
 unfold maxLen at hc2; clear h1 h2 hL; refine callsIn_of_wp Tryz.func187 rfl trivial ?_ rfl; simp only [Tryz.ntmps187, List.size_toArray, List.length_cons, List.length_nil, Nat.reduceAdd, Nat.reduceSub, Array.replicate_succ, Array.replicate_zero, List.push_toArray, List.append_toArray, List.nil_append, List.cons_append]; gi_wp2
 gi_loopw [4, 5] (fun i _ wr => ∃ k : Nat, k ≤ nch L ∧ i = vI ((63 * k : Nat) : Int) ∧ J ((partsOf L).take k) wr ∧ Ob wr c1 35 #[.slice A L.length c] ∧ Ob wr c2 3 #[vI 63] ∧ BytesAt wr lo hi (.slice A L.length c) L ∧ W.heap.size ≤ wr.heap.size) (fun i _ _ => 63 * nch L - (intOf i).toNat)
 case atStart => exact ⟨0, by omega, rfl, h0, g1, g2, gL, Nat.le_refl _⟩
 case round =>
   obtain ⟨k, hk, rfl, hJr, hO1, hO2, hLr, hsr⟩ := hrel; clear h0 g1 g2 gL; have y1 := hO1.cell (j := 0) (v := .slice A L.length c) rfl
   by_cases hlt : k < nch L
   · have hlt2 := nch_lt.1 hlt
     have hd : decide (63 * k < L.length) = true := by simpa using hlt2
     obtain ⟨p, o, hA, hp1, hp2, -⟩ := hLr.cellAt (j := 0) (by omega); subst hA; obtain ⟨m, hm⟩ : ∃ m : Nat, 63 * k = m := ⟨_, rfl⟩; rw [hm] at hlt2 hd; rw [hm]; have HM := hdd hm; have hcm : ¬ c = m := by omega
     have k1 : (0 : Int) ≤ (m : Int) := by omega
     have k2 : (m : Int) ≤ (L.length : Int) := by omega
     have k3 : (L.length : Int) ≤ (c : Int) := by omega
     have hdr := (Below.refl wr.heap.size wr).drew; have z1 := (hO1.same hdr).cell (j := 0) (v := .slice (some ⟨p, o, none⟩) L.length c) rfl; have z2 := (hO2.same hdr).cell (j := 0) (v := vI 63) rfl; have HO1 := hdd (hO1.same hdr); have HO2 := hdd (hO2.same hdr); have HLr := hdd (hLr.below (hdr.mono (by omega))); have HJr := hdd (hJ _ _ _ none hJr (only_of_below hdr none) (fun r e => by cases e)); clear hO1 hO2 hLr hJr hm
     gi_wp2_with fail
     refine wpIn_wide.2 ?_; refine Pu.regionM [(0, false), (1, false), (2, false), (3, false), (4, false), (5, false), (6, false)] (fun V => V = wr.drew) hmx (by kernel_rfl) (by kernel_rfl) (by kernel_rfl) rfl rfl ?_; simp only [Pu.named, List.filterMap_cons, List.filterMap_nil, zzJ, zzK, zzL, zzM]
     iterate 7 (apply Pu.WalkM.on (by rfl)
                · rintro V rfl
                  go_wp2_with fail; refine ⟨rfl, ?_, rfl⟩
                  try simp only [Act.put, zzA, zzB, zzC]
                  rfl
                simp only [Act.put, zzA, zzB, zzC])
     obtain ⟨q, hq⟩ : ∃ q : Nat, min 63 (L.length - m) = q := ⟨_, rfl⟩; have hq1 : 1 ≤ q := by omega
     have hq2 : m + q ≤ L.length := by omega
     have hq3 : q ≤ 63 := by omega
     rw [show min (63 : Int) ((L.length - m : Nat) : Int) = (q : Int) by omega]; refine Pu.WalkM.nil ?_; rintro V rfl
     have hpt : (L.drop m).take q = part L k := by
       unfold part; rw [HM.out, List.take_eq_take_iff, List.length_drop]; omega
     have hpart : BytesAt wr.drew lo hi (.slice (some ⟨p, o + m, none⟩) q q) (part L k) := by
       have h1 := onFrom HLr.out (k := m) (by omega); rw [if_neg hcm] at h1; have h2 := BytesAt.clip (upto h1 (k := q) (by rw [List.length_drop]; omega)); rw [hpt] at h2; exact h2
     have HP := hdd hpart
     have htk : (partsOf L).take (k + 1) = (partsOf L).take k ++ [part L k] := by
       rw [List.take_succ_eq_append_getElem (by rw [hPL]; exact hlt), partsOf_get]
     have HTK := hdd htk
     have hpre : (partsOf L).take k ++ [part L k] <+: partsOf L := by
       rw [← htk]; exact List.take_prefix _ _
     have HY := hdd (hY _ _ _ _ HJr.out hpre hpart); have k4 : (0 : Int) ≤ (m : Int) + (q : Int) := by omega
     have k5 : (m : Int) ≤ (m : Int) + (q : Int) := by omega
     have k6 : (m : Int) + (q : Int) ≤ (c : Int) := by omega
     have k7 : ¬ (m : Int) + (q : Int) = (m : Int) := by omega
     clear hpt hpart htk hpre hq; gi_wp2; obtain ⟨fn, tmps, assign, body, hy, hR⟩ := HY.out; rw [show Sem.run _ _ _ = _ from hy]; gi_wp2; refine hR.mono ?_; have hsd := hdr.size; rintro e W4 (⟨rfl, hJ4, hk4⟩ | ⟨rfl, hJx4, -⟩)
     · rw [← HTK.out] at hJ4
       have hO1 := hk4.ob HO1.out (.inl rfl); have hO2 := hk4.ob HO2.out (.inr (.inl rfl)); have hL4 := hk4.sl HLr.out (fun i a b => .inr (.inr ⟨a, b⟩)); have x2 := hO2.cell (j := 0) (v := vI 63) rfl; have hs4 := hk4.1; clear hY HY hy hR; gi_wp2
       go_roundw
       case rel => exact ⟨k + 1, by omega, num (by have := HM.out; omega), hJ4, hO1, hO2, hL4, by omega⟩
       case measure =>
         have := HM.out; have hk5 : 63 * (k + 1) ≤ 63 * nch L := Nat.mul_le_mul_left 63 (by omega); simp [intOf]; omega
     · rw [← HTK.out] at hJx4
       clear hY HY hy hR; gi_wp2; refine bodyPost_ret (results_none rfl _ _ _) rfl ?_; exact ⟨⟨_, rfl⟩, .inr ⟨_, List.take_prefix _ _, hJx4⟩⟩
   · obtain rfl : k = nch L := by omega
     have hn2 : ¬ 63 * nch L < L.length := fun h => absurd (nch_lt.2 h) (by omega)
     have hd : decide (63 * nch L < L.length) = false := by simpa using hn2
     rw [List.take_of_length_le (by rw [hPL]; omega)] at hJr; gi_wp2; go_end0; exact ⟨⟨_, rfl⟩, .inl ⟨_, rfl, hJr⟩⟩
end
section
open Go.RowKit Go.Maps
open Ce Se
theorem chunk_calls (A : Option Addr) (n c : Nat) (w : World) :
   Calls Tryz.prog 125 #[.slice A n c, vI 63] w fun e w' => e = .returned (.func (.func 187) #[] #[.pointer (some ⟨w.heap.size, 0, none⟩), .pointer (some ⟨w.heap.size + 1, 0, none⟩)]) ∧ (w.alloc (.cells #[.slice A n c] 35)).alloc (.cells #[vI 63] 3) = w' := by
 go_enter Tryz.func125, Tryz.ntmps125
 go_wp2; go_ret; exact ⟨rfl, rfl⟩
theorem row_cells {base g n cap : Nat} : ∀ (p : List UInt8) (w : World) (l : List UInt8) (o : Nat), w.ownsRow base 5 1 (.slice (some ⟨g, 0, none⟩) n cap) n (bytesV l) → o + p.length ≤ l.length →
   (w.setCells g o (bytesV p)).ownsRow base 5 1 (.slice (some ⟨g, 0, none⟩) n cap) n (bytesV (l.take o ++ p ++ l.drop (o + p.length)))
 | [], w, l, o, h, _ => by
   rw [List.append_nil, List.length_nil, Nat.add_zero, List.take_append_drop]; exact h
 | u :: r, w, l, o, h, hl => by
   rw [List.length_cons] at hl; obtain ⟨h1, -⟩ := h.stored o (.int .u8 (u.toNat : Int)); rw [← bytesV_set] at h1; have h2 := row_cells r _ _ (o + 1) h1 (by rw [List.length_set]; omega)
   have e1 : (l.set o u).take (o + 1) = l.take o ++ [u] := by
     rw [List.take_succ_eq_append_getElem (by rw [List.length_set]; omega), List.getElem_set_self]
     congr 1
     rw [List.take_set_of_le (Nat.le_refl _)]
   have e2 : (l.set o u).drop (o + 1 + r.length) = l.drop (o + (u :: r).length) := by
     rw [List.drop_set_of_lt (by omega), List.length_cons]
     congr 1
     omega
   rw [e1, e2] at h2; show (World.setCells _ g (o + 1) (bytesV r)).ownsRow _ _ _ _ _ _; simpa using h2
theorem blk_set {p : List UInt8} (h : p.length ≤ 63) : (p ++ List.replicate (64 - p.length) 0).set 63 (UInt8.ofNat p.length) = blkOf p := by
 unfold blkOf; rw [show 64 - p.length = (63 - p.length) + 1 by omega, List.replicate_succ', ← List.append_assoc, List.set_append_right _ _ (by simp; omega)]
 congr 1
 simp only [List.length_append, List.length_replicate]; rw [show 63 - (p.length + (63 - p.length)) = 0 by omega]
 rfl
theorem keepsFrom_kept {B : Nat} {Fr : Nat → Prop} {W W' : World} (h : Kept Fr W W') (hF : ∀ i, B ≤ i → i < W.heap.size → Fr i) : KeepsFrom B W W' :=
 ⟨h.size, fun k _ hk ho _ => (h.block k (hF k hk (Array.getElem?_eq_some_iff.1 ho).1)).trans ho⟩
structure PutI (w5 : World) (base b d sb mb w0 lo hi half i0 : Nat) (tv : Value) (G : Nat → Dv × Int) (pre : List (List UInt8)) (W : World) : Prop where
 bl : Ob W w0 122 #[.pointer (some ⟨b, 0, none⟩)]
 bh : Ob W (w0 + 1) 3 #[vI half]
 bt : ∃ v, Ob W (w0 + 1 + 1) 35 #[v] ∧ (pre = [] ∧ v = tv ∨ ∃ p, pre.getLast? = some p ∧ BytesAt W lo hi v p)
 br : Ob W (w0 + 1 + 1 + 1) 35 #[vN]
 be : Ob W (w0 + 1 + 1 + 1 + 1) 33 #[vO]
 bi : Ob W (w0 + 1 + 1 + 1 + 1 + 1) 3 #[vI ((i0 + pre.length : Nat) : Int)]
 dv : DvAt W base d sb mb (G pre.length).1
 ok : (G pre.length).2 = 0
 fr : Kept (fun i => i < w0 ∧ i ≠ d ∧ i ≠ sb ∧ i ≠ mb) w5 W
 sz : w5.heap.size ≤ W.heap.size
structure PutX (w5 : World) (base d sb mb w0 : Nat) (G : Nat → Dv × Int) (pre : List (List UInt8)) (W : World) : Prop where
 br : Ob W (w0 + 1 + 1 + 1) 35 #[vN]
 be : Ob W (w0 + 1 + 1 + 1 + 1) 33 #[vI (G pre.length).2]
 dv : DvAt W base d sb mb (G pre.length).1
 bad : (G pre.length).2 ≠ 0
 fr : Kept (fun i => i < w0 ∧ i ≠ d ∧ i ≠ sb ∧ i ≠ mb) w5 W
 sz : w5.heap.size ≤ W.heap.size
section
variable {w5 W W' : World} {base b d sb mb w0 lo hi half i0 : Nat} {tv : Value} {G : Nat → Dv × Int} {pre : List (List UInt8)}
theorem PutI.kept (h : PutI w5 base b d sb mb w0 lo hi half i0 tv G pre W) (hk : Kept (fun i => i < w5.heap.size) W W') (hd : d < w0 ∧ sb < w0 ∧ mb < w0) (hw : w0 + 5 < w5.heap.size) (hh : hi ≤ w5.heap.size) : PutI w5 base b d sb mb w0 lo hi half i0 tv G pre W' := by
 refine ⟨hk.ob h.bl (by omega), hk.ob h.bh (by omega), ?_, hk.ob h.br (by omega), hk.ob h.be (by omega), hk.ob h.bi (by omega), h.dv.kept hk (by omega) (by omega) (by omega), h.ok, h.fr.trans (hk.mono fun i hi => by omega), Nat.le_trans h.sz hk.size⟩; obtain ⟨v, h1, h2⟩ := h.bt; refine ⟨v, hk.ob h1 (by omega), h2.imp id ?_⟩; rintro ⟨p, h3, h4⟩; exact ⟨p, h3, hk.sl h4 fun i a b => by omega⟩
theorem PutX.kept (h : PutX w5 base d sb mb w0 G pre W) (hk : Kept (fun i => i < w5.heap.size) W W') (hd : d < w0 ∧ sb < w0 ∧ mb < w0) (hw : w0 + 5 < w5.heap.size) : PutX w5 base d sb mb w0 G pre W' :=
 ⟨hk.ob h.br (by omega), hk.ob h.be (by omega), h.dv.kept hk (by omega) (by omega) (by omega), h.bad, h.fr.trans (hk.mono fun i hi => by omega), Nat.le_trans h.sz hk.size⟩
end
end
end Wa
end Go.Proofs.YtgcnhmjpfbbfcaaGreat
