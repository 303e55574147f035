/-
  part of the proof of TopNames.
-/
import Derived.Test.YtgcnhmjpfbbfcaaGreatTy6
import Derived.Laws.IdiomCopy
set_option linter.unusedVariables false
set_option linter.unusedSimpArgs false
set_option maxRecDepth 100000
set_option maxHeartbeats 8000000
namespace Go.Proofs.YtgcnhmjpfbbfcaaGreat
namespace Wa
section
open Go.RowKit Go.Maps
open Ce Se
attribute [local go_sem] Oper.semAt_some
theorem rest_last {L : List UInt8} {m : Nat} (hm : m + 1 = nch L) : (part L m).length ≤ 63 ∧ (if (part L m).length = 63 then L.drop (63 * (L.length / 63)) = [] else L.drop (63 * (L.length / 63)) = part L m) := by
 have h1 : 63 * m < L.length := nch_lt.1 (by omega); have h2 : ¬ 63 * (m + 1) < L.length := fun h => absurd (nch_lt.2 h) (by omega)
 have hp := part_len L m; refine ⟨by omega, ?_⟩
 split
 · apply List.drop_eq_nil_of_le
   omega
 · have hq : L.length / 63 = m := by omega
   rw [hq]; unfold part; rw [List.take_of_length_le (by rw [List.length_drop]; omega)]
theorem last_parts {L : List UInt8} {p : List UInt8} (h : (partsOf L).getLast? = some p) : ∃ m, m + 1 = nch L ∧ p = part L m := by
 have hl := partsOf_len L; rw [List.getLast?_eq_getElem?] at h; obtain ⟨h1, h2⟩ := List.getElem?_eq_some_iff.1 h; rw [partsOf_get] at h2; exact ⟨(partsOf L).length - 1, by omega, h2.symm⟩
section
variable {w w' : World} {base b d sb mb : Nat} {D D' : Dv}
theorem put_calls (h : DvAt w base d sb mb D) (h4 : 4 ≤ D.sure.length) (hc : w.cell? ⟨b, 0, none⟩ = some (.pointer (some ⟨d, 0, none⟩))) (hbl : b < w.heap.size) (hbd : b ≠ d ∧ b ≠ sb ∧ b ≠ mb) (half used : Nat) (hh : half ≤ 1) (hu : used ≤ 600000)
   (tl bl : List UInt8) (tv bv : Value) (ht : BytesAt w 0 w.heap.size tv tl) (hb : BytesAt w 0 w.heap.size bv bl) (hl : tl.length + bl.length ≤ 1000000) :
   Calls Tryz.prog 166 #[.pointer (some ⟨b, 0, none⟩), vI half, vI used, tv, bv] w fun e w' =>
     (∃ v, e = .returned (.tuple #[v, vI (wrG writeD D (Wa.base half (szD D) + (used / 63 : Nat)) (chF (tl ++ bl)) (nch (tl ++ bl))).2]) ∧
       ((wrG writeD D (Wa.base half (szD D) + (used / 63 : Nat)) (chF (tl ++ bl)) (nch (tl ++ bl))).2 = 0 → w'.ownsRow w.heap.size 5 1 v ((tl ++ bl).drop (63 * ((tl ++ bl).length / 63))).length (bytesV ((tl ++ bl).drop (63 * ((tl ++ bl).length / 63))))) ∧ ((wrG writeD D (Wa.base half (szD D) + (used / 63 : Nat)) (chF (tl ++ bl)) (nch (tl ++ bl))).2 ≠ 0 → v = vN)) ∧
     DvAt w' base d sb mb (wrG writeD D (Wa.base half (szD D) + (used / 63 : Nat)) (chF (tl ++ bl)) (nch (tl ++ bl))).1 ∧ Dev d sb mb w w' := by
 have hlen := h.len; have hz : szD D ≤ 8191 := by unfold szD; omega
 have HLK := hdd (fun (W : World) E (h1 : Dev d sb mb w W) (h2 : DvAt W base d sb mb E) (h3 : E.sure.length = D.sure.length) => show Lk base b d sb mb D W from ⟨(Dev.cell (p := ⟨b, 0, none⟩) h1 hbl hbd.1 hbd.2.1 hbd.2.2).trans hc, E, h2, h3⟩); have HGS := hdd (fun j hj => wrG_step (D := D) (k := Wa.base half (szD D) + (used / 63 : Nat)) (f := chF (tl ++ bl)) (j := j) hj); have HGL := hdd (fun j => wrG_len D (Wa.base half (szD D) + (used / 63 : Nat)) (chF (tl ++ bl)) j); have HGB := hdd (fun j n hj hn => wrG_bad (wr := writeD) (D := D) (k := Wa.base half (szD D) + (used / 63 : Nat)) (f := chF (tl ++ bl)) (j := j) hj n hn); have H0 := hdd (show wrG writeD D (Wa.base half (szD D) + (used / 63 : Nat)) (chF (tl ++ bl)) 0 = (D, 0) from rfl); obtain ⟨G, hG⟩ : ∃ G : Nat → Dv × Int, G = wrG writeD D (Wa.base half (szD D) + (used / 63 : Nat)) (chF (tl ++ bl)) := ⟨_, rfl⟩; rw [← hG] at HGS HGL HGB H0 ⊢; clear hG; have hdb : d < w.heap.size := h.ob.lt; have hmb : mb < w.heap.size := h.map.lt; have hsb : sb < w.heap.size := h.sure.lt; have HDV := hdd h; have HTL := hdd (show tl ++ bl = [] → tl = [] from fun h => (List.append_eq_nil_iff.1 h).1); have hLl : (tl ++ bl).length ≤ 1000000 := by rw [List.length_append]; omega
 obtain ⟨At, ct, rfl, -⟩ := ht.form; obtain ⟨Ab, cb, rfl, -⟩ := hb.form; refine (callsIn_wide (n := 6)).1 ?_; refine callsIn_of_wp_marks Tryz.func166 rfl trivial ?_ rfl; simp only [Tryz.ntmps166, List.size_toArray, List.length_cons, List.length_nil, Nat.reduceAdd, Nat.reduceSub, Array.replicate_succ, Array.replicate_zero, List.push_toArray, List.append_toArray, List.nil_append, List.cons_append]
 gi_wp2_with fail
 rw [show (used : Int) / 63 = ((used / 63 : Nat) : Int) by omega]; have hi0 : used / 63 ≤ 10000 := by omega
 generalize used / 63 = i0 at *; have e0 := Ob.new w 122 #[.pointer (some ⟨b, 0, none⟩)]; have a0 := (Below.refl w.heap.size w).alloc (Nat.le_refl _) (.cells #[.pointer (some ⟨b, 0, none⟩)] 122); have s0 : (w.alloc (.cells #[.pointer (some ⟨b, 0, none⟩)] 122)).heap.size = w.heap.size + 1 := by simp
 generalize w.alloc (.cells #[.pointer (some ⟨b, 0, none⟩)] 122) = W1 at *; have e1 := Ob.new W1 3 #[vI half]; have a1 := a0.alloc a0.size (.cells #[vI half] 3); replace e0 := e0.alloc (.cells #[vI half] 3); have s1 : (W1.alloc (.cells #[vI half] 3)).heap.size = w.heap.size + 1 + 1 := by rw [World.size_alloc, s0]
 generalize W1.alloc (.cells #[vI half] 3) = W2 at *; have e2 := Ob.new W2 35 #[.slice At tl.length ct]; have a2 := a1.alloc a1.size (.cells #[.slice At tl.length ct] 35); replace e0 := e0.alloc (.cells #[.slice At tl.length ct] 35); replace e1 := e1.alloc (.cells #[.slice At tl.length ct] 35); have s2 : (W2.alloc (.cells #[.slice At tl.length ct] 35)).heap.size = w.heap.size + 1 + 1 + 1 := by rw [World.size_alloc, s1]
 generalize W2.alloc (.cells #[.slice At tl.length ct] 35) = W3 at *; have e3 := Ob.new W3 35 #[vN]; have a3 := a2.alloc a2.size (.cells #[vN] 35); replace e0 := e0.alloc (.cells #[vN] 35); replace e1 := e1.alloc (.cells #[vN] 35); replace e2 := e2.alloc (.cells #[vN] 35); have s3 : (W3.alloc (.cells #[vN] 35)).heap.size = w.heap.size + 1 + 1 + 1 + 1 := by rw [World.size_alloc, s2]
 generalize W3.alloc (.cells #[vN] 35) = W4 at *; have e4 := Ob.new W4 33 #[vO]; have a4 := a3.alloc a3.size (.cells #[vO] 33); replace e0 := e0.alloc (.cells #[vO] 33); replace e1 := e1.alloc (.cells #[vO] 33); replace e2 := e2.alloc (.cells #[vO] 33); replace e3 := e3.alloc (.cells #[vO] 33); have s4 : (W4.alloc (.cells #[vO] 33)).heap.size = w.heap.size + 1 + 1 + 1 + 1 + 1 := by rw [World.size_alloc, s3]
 generalize W4.alloc (.cells #[vO] 33) = W5 at *; have e5 := Ob.new W5 3 #[vI (i0 : Int)]; have a5 := a4.alloc a4.size (.cells #[vI (i0 : Int)] 3); replace e0 := e0.alloc (.cells #[vI (i0 : Int)] 3); replace e1 := e1.alloc (.cells #[vI (i0 : Int)] 3); replace e2 := e2.alloc (.cells #[vI (i0 : Int)] 3); replace e3 := e3.alloc (.cells #[vI (i0 : Int)] 3); replace e4 := e4.alloc (.cells #[vI (i0 : Int)] 3); have s5 : (W5.alloc (.cells #[vI (i0 : Int)] 3)).heap.size = w.heap.size + 1 + 1 + 1 + 1 + 1 + 1 := by rw [World.size_alloc, s4]
 generalize W5.alloc (.cells #[vI (i0 : Int)] 3) = W6 at *; have e6 := Ob.new W6 35 #[.slice At tl.length ct, .slice Ab bl.length cb]; have a6 := a5.alloc a5.size (.cells #[.slice At tl.length ct, .slice Ab bl.length cb] 35); replace e0 := e0.alloc (.cells #[.slice At tl.length ct, .slice Ab bl.length cb] 35); replace e1 := e1.alloc (.cells #[.slice At tl.length ct, .slice Ab bl.length cb] 35); replace e2 := e2.alloc (.cells #[.slice At tl.length ct, .slice Ab bl.length cb] 35); replace e3 := e3.alloc (.cells #[.slice At tl.length ct, .slice Ab bl.length cb] 35); replace e4 := e4.alloc (.cells #[.slice At tl.length ct, .slice Ab bl.length cb] 35); replace e5 := e5.alloc (.cells #[.slice At tl.length ct, .slice Ab bl.length cb] 35); have s6 : (W6.alloc (.cells #[.slice At tl.length ct, .slice Ab bl.length cb] 35)).heap.size = w.heap.size + 1 + 1 + 1 + 1 + 1 + 1 + 1 := by rw [World.size_alloc, s5]
 generalize W6.alloc (.cells #[.slice At tl.length ct, .slice Ab bl.length cb] 35) = W7 at *; simp only [s0, s1, s2, s3, s4, s5] at e1 e2 e3 e4 e5 e6; have S6 := hdd s6; have hcat := cat2_calls W7 (w.heap.size + 1 + 1 + 1 + 1 + 1 + 1) _ _ tl bl e6.lt (e6.k 0 rfl) (e6.k 1 rfl) (BytesAt.mono ht a6 a6.size) (BytesAt.mono hb a6 a6.size) hl; refine ⟨trivial, (callsIn_wide.2 hcat).mono ?_⟩; rintro e W8 ⟨⟨r, rfl, hr⟩, hb8⟩; have HDV7 := hdd (h.same (a6.trans (hb8.mono a6.size))); replace e0 := e0.same hb8; replace e1 := e1.same hb8; replace e2 := e2.same hb8; replace e3 := e3.same hb8; replace e4 := e4.same hb8; replace e5 := e5.same hb8; have a8 := a6.trans (hb8.mono a6.size); have hL8 := BytesAt.of_own hr; obtain ⟨Ar, cr, rfl, hcr, hcm⟩ := hL8.form; have HSZ := hdd (show w.heap.size + 7 ≤ W8.heap.size by have := hb8.size; omega); clear s0 s1 s2 s3 s4 s5 s6 a0 a1 a2 a3 a4 a5 a6 hcat hr hb8 h hc hb e6; generalize htlb : tl ++ bl = L at *; have HTLB := hdd htlb; clear htlb
 gi_wp2_with fail
 refine ⟨trivial, (callsIn_wide.2 (chunk_calls _ _ _ _)).mono ?_⟩; rintro e W9 ⟨rfl, rfl⟩
 gi_wp2_with fail
 have g1 := (Ob.new W8 35 #[.slice Ar L.length cr]).alloc (.cells #[vI 63] 3); have g2 := Ob.new (W8.alloc (.cells #[.slice Ar L.length cr] 35)) 3 #[vI 63]; have hb10 : Below W8.heap.size W8 ((W8.alloc (.cells #[.slice Ar L.length cr] 35)).alloc (.cells #[vI 63] 3)) := ((Below.refl _ W8).alloc (Nat.le_refl _) _).alloc (by simp) _; have hs10 : ((W8.alloc (.cells #[.slice Ar L.length cr] 35)).alloc (.cells #[vI 63] 3)).heap.size = W8.heap.size + 2 := by simp
 rw [World.size_alloc] at g2; generalize (W8.alloc (.cells #[.slice Ar L.length cr] 35)).alloc (.cells #[vI 63] 3) = W10 at *; have HS10 := hdd hs10; have HB10 := hdd (a8.trans (hb10.mono a8.size)); obtain ⟨lo, hlo⟩ : ∃ lo, W7.heap.size = lo := ⟨_, rfl⟩; obtain ⟨hi, hhi⟩ : ∃ hi, W8.heap.size = hi := ⟨_, rfl⟩; rw [hlo, hhi] at hL8; rw [hlo] at S6; rw [hhi] at g1 g2 hs10 HS10 HSZ; have hlh : w.heap.size + 7 = lo ∧ w.heap.size + 7 ≤ hi ∧ W10.heap.size = hi + 2 := ⟨by have := S6.out; omega, HSZ.out, hs10⟩; have HLH := hdd hlh; have hw10 : w.heap.size + 5 < W10.heap.size := by omega
 have hI0 : PutI W10 base b d sb mb w.heap.size lo hi half i0 (.slice At tl.length ct) G [] W10 :=
   ⟨e0.same hb10, e1.same hb10, ⟨_, e2.same hb10, .inl ⟨rfl, rfl⟩⟩, e3.same hb10, e4.same hb10, e5.same hb10, by rw [List.length_nil, H0.out]; exact HDV7.out.same hb10, by rw [List.length_nil, H0.out], Kept.refl _ _, Nat.le_refl _⟩
 have hL10 := hL8.below (hb10.mono (by omega)); have HL10 := hdd hL10; rw [hhi]; clear e0 e1 e2 e3 e4 e5 hL8 hb10 a8 hs10 HDV7
 have hown : ∀ {P : List (List UInt8) → World → Prop}, (∀ s A B, P s A → Kept (fun i => i < W10.heap.size) A B → P s B) → (∀ s A, P s A → W10.heap.size ≤ A.heap.size) → OwnFrom W10.heap.size P := fun hP hS s A B row hs hg hr =>
   hP s A B hs (Kept.of_grown hg fun i hi => ⟨by have := hS s A hs; omega, fun e => by have := (hr i e.symm).1; omega⟩)
 refine Ro.range_reads (n := 6) rfl (by omega) (gf := 187) rfl trivial (enters_of Tryz.func187 (by kernel_rfl) rfl)
   (chunk_reads 5 (by omega) hi (hi + 1) Ar cr L lo hi W10 g1 g2 hL10 (by omega) hLl) (Below.refl _ _) (fun h k => h.trans k) (fun W l r r' hl _ => KpF.loop (fun i hi => by omega)) rfl
   (fun pre W => PutI W10 base b d sb mb w.heap.size lo hi half i0 (.slice At tl.length ct) G pre W)
   (fun c pre W => c = .ret ∧ PutX W10 base d sb mb w.heap.size G pre W)
   (hown (fun s A B h k => h.kept k ⟨hdb, hsb, hmb⟩ hw10 (by omega)) (fun s A h => h.sz))
   (fun c => hown (fun s A B h k => ⟨h.1, h.2.kept k ⟨hdb, hsb, hmb⟩ hw10⟩) (fun s A h => h.2.sz))
   hI0 ?round ?done ?stop
 case round =>
   rintro l pre p v W hl hI hpre hv
   obtain ⟨hk, hp⟩ : pre.length < nch L ∧ p = part L pre.length := by
     obtain ⟨r, hr⟩ := hpre; have hlen2 := congrArg List.length hr; rw [partsOf_len, List.length_append, List.length_append, List.length_singleton] at hlen2; have hk : pre.length < nch L := by omega
     refine ⟨hk, ?_⟩; have hg := partsOf_get L (k := pre.length) (by rw [partsOf_len]; exact hk); have h1 : (partsOf L)[pre.length]? = some p := by rw [← hr]; simp
     rw [List.getElem?_eq_getElem (by rw [partsOf_len]; exact hk), hg] at h1; exact (Option.some.inj h1).symm
   have hpl : 1 ≤ p.length ∧ p.length ≤ 63 := by
     have := nch_lt.1 hk; rw [hp, part_len]; omega
   have HBK := hdd (show chF L pre.length = blkOf p by rw [hp]; rfl); have HNC := hdd (show nch L ≤ 20000 by unfold nch; omega); obtain ⟨Ap, cp, rfl, -⟩ := hv.form; obtain ⟨pb, po, hA, hpb1, hpb2, -⟩ := hv.cellAt (j := 0) (by omega); subst hA; have HP := hdd hp; have hIs := hI.sz; clear hp hpre; gi_wp2; refine ⟨KeepsFrom.refl _ _, KpF.refl _ _, fun W2 hg2 ho2 => ?_⟩; have hK2 : Kept (fun i => i < W10.heap.size) W W2 := Kept.of_grown hg2 fun i hi => ⟨by omega, fun e => by cases e; omega⟩
   have hI2 := hI.kept hK2 ⟨hdb, hsb, hmb⟩ hw10 (by omega); have hv2 : BytesAt W2 lo hi (.slice (some ⟨pb, po, none⟩) p.length cp) p := hK2.sl hv (fun i a b => by omega); have hs2 := hI2.sz; obtain ⟨W3, hmk, hrow3, hg3⟩ := make_bytes 64 W2 (by omega); rw [show ((64 : Nat) : Int) = 64 from rfl] at hmk; have hb3 : Below W2.heap.size W2 W3 := (Below.refl _ _).grown hg3 (Nat.le_refl _) (fun k e => by cases e); have hv3 : BytesAt W3 lo hi (.slice (some ⟨pb, po, none⟩) p.length cp) p := hv2.below (hb3.mono (by omega))
   have hcp := fun ty => run_copy_cells (P := Tryz.prog) W3 35 35 ty 5 W2.heap.size 0 64 64 ⟨pb, po, none⟩ p.length cp (bytesV p) Tryz.underlying35 (by kernel_rfl) (by rw [bytesV_length]; exact (Nat.min_eq_left (by omega)).symm)
     (fun j v hj => by
       have hj2 : j < p.length := by
         have := (List.getElem?_eq_some_iff.1 hj).1
         rwa [bytesV_length] at this
       obtain ⟨A', c', e', -, -, h3⟩ := hv3.at_
       cases e'
       obtain ⟨b', o', e2, -, -, h4⟩ := h3 (by omega)
       cases e2
       rw [Addr.add_lit, h4 j (by omega)]; exact hj)
     (fun j hj => by
       rw [Nat.zero_add, hrow3.cellAt j (by rw [bytesV_length] at hj; omega), List.getElem?_eq_getElem (by rw [bytesV_length, List.length_replicate]; rw [bytesV_length] at hj; omega)]
       rfl) (fun j _ => hrow3.frozenAt _) (bytesV_one p)
   rw [bytesV_length] at hcp; have hrow4 := row_cells p W3 (List.replicate 64 0) 0 hrow3 (by rw [List.length_replicate]; omega); rw [List.take_zero, List.nil_append, Nat.zero_add, List.drop_replicate] at hrow4; have hb4 : Below W2.heap.size W2 (W3.setCells W2.heap.size 0 (bytesV p)) := hb3.grown (grownBy_cells _ _ _) hb3.size (fun k e => by cases e; exact Nat.le_refl _); generalize W3.setCells W2.heap.size 0 (bytesV p) = W4 at *; have h63 := hrow4.cellAt 63 (by omega); rw [List.getElem?_eq_getElem (by rw [bytesV_length, List.length_append, List.length_replicate]; omega)] at h63; obtain ⟨c63, hc63⟩ : ∃ c, W4.cell? ⟨W2.heap.size, 63, none⟩ = some c := ⟨_, h63⟩; clear h63; have hf63 := hrow4.frozenAt 63; obtain ⟨hrow5, hg5⟩ := hrow4.stored 63 (.int .u8 ((UInt8.ofNat p.length).toNat : Int)); rw [← bytesV_set, blk_set hpl.2] at hrow5; have hb5 := hb4.grown hg5 hb4.size (fun k e => by cases e; exact Nat.le_refl _); rw [show ((UInt8.ofNat p.length).toNat : Int) = (p.length : Int) by simp; omega] at hrow5 hb5; have HR5 := hdd hrow5; have HB5 := hdd hb5; have HI2 := hdd hI2; have HV2 := hdd hv2; have HG2 := hdd hg2; have hp1 := hpl.1; have hp2 := hpl.2; clear hrow5 hb5 hI2 hI hv hv2 hv3 hrow3 hrow4 hg3 hg5 hb3 hb4 hK2 hg2 ho2 hpl; generalize hpn : p.length = n at *; have HPN := hdd hpn; clear hpn
   gi_wp2_with fail
   generalize W4.setCell ⟨W2.heap.size, 63, none⟩ (.int .u8 (n : Int)) = W5' at *; have hb7 : Below W2.heap.size W2 W5'.drew := HB5.out.drew; have hK7 : Kept (fun i => i < W10.heap.size) W2 W5'.drew := Kept.of_below hb7 fun i hi => by omega
   have hI7 := HI2.out.kept hK7 ⟨hdb, hsb, hmb⟩ hw10 (by have := HLH.out; omega); have hLk7 : Lk base b d sb mb D W5'.drew := HLK.out _ _ (Kept.trans (Kept.of_below HB10.out fun i hi => hi.1) (hI7.fr.mono fun i hi => hi)) hI7.dv (HGL.out _); have hnc := HNC.out; generalize hK0 : pre.length = K at *; have CA := hdd (fun (V : World) (hV : Lk base b d sb mb D V) => hV.at_ h4 half (i0 + K) hh (by omega)); rw [show Wa.base half (szD D) + ((i0 + K : Nat) : Int) = Wa.base half (szD D) + (i0 : Int) + (K : Int) by omega] at CA; have hbi := hI7.bi; rw [hK0] at hbi; have CG := hdd (HGS.out K (by rw [← hK0]; exact hI7.ok)); rw [HBK.out] at CG; have HK0 := hdd hK0; have HI7 := hdd hI7; generalize Wa.base half (szD D) + (i0 : Int) + (K : Int) = at_ at CA CG; clear hK7 hK0
   have hdv : DvAt W5'.drew base d sb mb (G K).1 := by
     have := HI7.out.dv
     rwa [HK0.out] at this
   have hI8 : BytesAt W5'.drew W2.heap.size W5'.drew.heap.size (.slice (some ⟨W2.heap.size, 0, none⟩) 64 64) (blkOf p) := by
     unfold BytesAt; rw [blkOf_len (by have := HPN.out; omega)]; exact Sl.of_own HR5.out
   have cW := write_calls hdv at_ (blkOf p) _ _ _ hI8 (Nat.le_refl _) (by omega) (by omega); rw [← CG.out] at cW; have CW := hdd cW; have hb7s := hb7.size; have hbl7 := hI7.bl; have hbh7 := hI7.bh; clear cW hI8 hdv hI7
   refine Pi.regionIn [(0, false), (1, false), (2, false), (3, false), (4, false), (5, false), (6, false), (7, false), (8, false), (9, true), (10, false)]
     (fun V => Ob V w.heap.size 122 #[.pointer (some ⟨b, 0, none⟩)] ∧ Ob V (w.heap.size + 1) 3 #[vI half] ∧ Ob V (w.heap.size + 1 + 1 + 1 + 1 + 1) 3 #[vI ((i0 + K : Nat) : Int)] ∧ Lk base b d sb mb D V)
     hmx (by kernel_rfl) (by kernel_rfl) (by kernel_rfl) (by kernel_rfl) ⟨hbl7, hbh7, hbi, hLk7⟩ rfl ?_
   simp only [Pu.named, List.filterMap_cons, List.filterMap_nil, zzJ, zzK, zzL, zzM]
   iterate 7 (apply Pu.WalkM.on (by rfl)
              · rintro V ⟨k0, k1, k5, kl⟩
                have z0 := k0.cell (j := 0) (v := .pointer (some ⟨b, 0, none⟩)) rfl; have z1 := k1.cell (j := 0) (v := vI half) rfl; have z5 := k5.cell (j := 0) (v := vI ((i0 + K : Nat) : Int)) rfl; have zc := kl.1; go_wp2_with fail; refine ⟨rfl, ?_, rfl⟩
                try simp only [Act.put, zzA, zzB, zzC]
                rfl
              simp only [Act.put, zzA, zzB, zzC])
   iterate 1 (apply Pu.WalkM.on (by rfl)
              · rintro V ⟨k0, k1, k5, kl⟩
                go_wp2_with (go_at_call 216; refine (CA.out _ kl).mono ?_; rintro e W1 ⟨rfl, rfl⟩); refine ⟨rfl, ?_, rfl⟩
                try simp only [Act.put, zzA, zzB, zzC]
                rfl
              simp only [Act.put, zzA, zzB, zzC])
   iterate 1 (apply Pu.WalkM.on (by rfl)
              · rintro V hV
                go_wp2_with fail; refine ⟨rfl, ?_, rfl⟩
                try simp only [Act.put, zzA, zzB, zzC]
                rfl
              simp only [Act.put, zzA, zzB, zzC])
   refine Pu.WalkM.make (by rfl) ?_; rintro V rfl; go_wp2_with (go_at_call 171; refine CW.out.mono ?_; rintro e W6 ⟨rfl, hD6, hK6⟩); have hs6 := Kept.size hK6; have HLH2 := HLH.out; have hK26 : Kept (fun i => i < W2.heap.size ∧ i ≠ d ∧ i ≠ sb ∧ i ≠ mb) W2 W6 := (Kept.of_below hb7 fun i hi => hi.1).trans (Kept.mono hK6 fun i hi => ⟨by omega, hi.2⟩); have k06 := hK26.ob HI2.out.bl (by omega); have k16 := hK26.ob HI2.out.bh (by omega); obtain ⟨tv2, hbt2, -⟩ := HI2.out.bt; have k26 := hK26.ob hbt2 (by omega); have k36 := hK26.ob HI2.out.br (by omega); have k46 := hK26.ob HI2.out.be (by omega); have k56 := hK26.ob HI2.out.bi (by omega); rw [HK0.out] at k56
   have hvW : BytesAt W6 lo hi (.slice (some ⟨pb, po, none⟩) n cp) p := by
     have := hK26.sl HV2.out (fun i a b => by omega); exact this
   have hfrW : Kept (fun i => i < w.heap.size ∧ i ≠ d ∧ i ≠ sb ∧ i ≠ mb) W10 W6 := HI2.out.fr.trans (hK26.mono fun i hi => by omega); have hLk6 : Lk base b d sb mb D W6 := HLK.out _ _ (Kept.trans (Kept.of_below HB10.out fun i hi => hi.1) hfrW) hD6 (HGL.out _); refine ⟨rfl, vI (G (K + 1)).2, (fun V => V = W6), (fun V => V = W6), ?_, rfl, (fun _ h => h), (.inr (fun V h => by rw [h]; exact ⟨k06, k16, k56, hLk6⟩)), ?_⟩
   · try simp only [Act.put, zzA, zzB, zzC]
     try rfl
   simp only [Act.put, zzA, zzB, zzC]
   iterate 1 (apply Pu.WalkM.on (by rfl)
              · rintro V hV
                rw [hV]; go_wp2_with fail; refine ⟨rfl, ?_, rfl⟩
                try simp only [Act.put, zzA, zzB, zzC]
                rfl
              simp only [Act.put, zzA, zzB, zzC])
   refine Pu.WalkM.nil ?_; rintro V rfl; refine Pi.OnlyN.out ?_; have hpl1 : (pre ++ [p]).length = K + 1 := by rw [List.length_append, HK0.out]; rfl
   have HPL1 := hdd hpl1; have c2 := k26.cell (j := 0) (v := tv2) rfl; have c3 := k36.cell (j := 0) (v := vN) rfl; have c4 := k46.cell (j := 0) (v := vO) rfl; have c5 := k56.cell (j := 0) (v := vI ((i0 + K : Nat) : Int)) rfl; have f2 := k26.frozen 0; have f3 := k36.frozen 0; have f4 := k46.frozen 0; have f5 := k56.frozen 0; have HD6 := hdd hD6; have hkb : K < 20000 := by omega
   clear hLk6 hLk7 hbl7 hbh7 hbi hbt2 hb7 hK6 HI7 CW CA hpl1 hnc HLH2 hD6
   by_cases he : (G (K + 1)).2 = 0
   · have hne : ((G (K + 1)).2 != 0) = false := by simpa using he
     have HE := hdd he; clear he; gi_wp2; have hvi : (i0 : Int) + (K : Int) + 1 = ((i0 + (K + 1) : Nat) : Int) := by omega
     have g1 := grownBy_set V (w.heap.size + 1 + 1 + 1 + 1 + 1) 0 (vI ((i0 : Int) + (K : Int) + 1)); have g2 := grownBy_set (V.setCell ⟨w.heap.size + 1 + 1 + 1 + 1 + 1, 0, none⟩ (vI ((i0 : Int) + (K : Int) + 1))) (w.heap.size + 1 + 1) 0 (.slice (some ⟨pb, po, none⟩) n cp); have o5 := (k56.set 0 (vI ((i0 : Int) + (K : Int) + 1))).other (b' := w.heap.size + 1 + 1) (by omega) 0 (.slice (some ⟨pb, po, none⟩) n cp); have o2 := (k26.other (b' := w.heap.size + 1 + 1 + 1 + 1 + 1) (by omega) 0 (vI ((i0 : Int) + (K : Int) + 1))).set 0 (.slice (some ⟨pb, po, none⟩) n cp); have hKS : Kept (fun i => i < V.heap.size ∧ i ≠ w.heap.size + 1 + 1 + 1 + 1 + 1 ∧ i ≠ w.heap.size + 1 + 1) V _ := (Kept.of_grown g1 (fun i hi => ⟨hi.1, fun e => hi.2.1 (Option.some.inj e)⟩)).trans (Kept.of_grown g2 (fun i hi => ⟨by simpa using hi.1, fun e => hi.2.2 (Option.some.inj e)⟩)); have hLH := HLH.out; generalize (V.setCell ⟨w.heap.size + 1 + 1 + 1 + 1 + 1, 0, none⟩ (vI ((i0 : Int) + (K : Int) + 1))).setCell ⟨w.heap.size + 1 + 1, 0, none⟩ (.slice (some ⟨pb, po, none⟩) n cp) = W9 at *; have hK2W : Kept (fun i => i < W2.heap.size ∧ i ≠ d ∧ i ≠ sb ∧ i ≠ mb ∧ i ≠ w.heap.size + 1 + 1 + 1 + 1 + 1 ∧ i ≠ w.heap.size + 1 + 1) W2 W9 := (hK26.mono fun i hi => by omega).trans (hKS.mono fun i hi => by omega); refine ⟨keepsFrom_kept hK2W (fun i h1 h2 => by omega), KpF.of_kept hK2W (fun i hi => by omega), ?_⟩; refine ⟨hKS.ob k06 (by omega), hKS.ob k16 (by omega), ⟨_, o2, .inr ⟨p, by simp, hKS.sl hvW (fun i a b => by omega)⟩⟩, hKS.ob k36 (by omega), hKS.ob k46 (by omega), ?_, ?_, ?_, hfrW.trans (hKS.mono fun i hi => by omega), Nat.le_trans (by omega) hKS.size⟩
     · rw [HPL1.out, ← hvi]
       exact o5
     · rw [HPL1.out]
       exact HD6.out.kept hKS (by omega) (by omega) (by omega)
     · rw [HPL1.out]
       exact HE.out
   · have hne : ((G (K + 1)).2 != 0) = true := by simpa using he
     have HE := hdd he; clear he; gi_wp2; have g1 := grownBy_set V (w.heap.size + 1 + 1 + 1) 0 vN; have g2 := grownBy_set (V.setCell ⟨w.heap.size + 1 + 1 + 1, 0, none⟩ vN) (w.heap.size + 1 + 1 + 1 + 1) 0 (vI (G (K + 1)).2); have o3 := (k36.set 0 vN).other (b' := w.heap.size + 1 + 1 + 1 + 1) (by omega) 0 (vI (G (K + 1)).2); have o4 := (k46.other (b' := w.heap.size + 1 + 1 + 1) (by omega) 0 vN).set 0 (vI (G (K + 1)).2); have hKS : Kept (fun i => i < V.heap.size ∧ i ≠ w.heap.size + 1 + 1 + 1 ∧ i ≠ w.heap.size + 1 + 1 + 1 + 1) V _ := (Kept.of_grown g1 (fun i hi => ⟨hi.1, fun e => hi.2.1 (Option.some.inj e)⟩)).trans (Kept.of_grown g2 (fun i hi => ⟨by simpa using hi.1, fun e => hi.2.2 (Option.some.inj e)⟩)); have hLH := HLH.out; generalize (V.setCell ⟨w.heap.size + 1 + 1 + 1, 0, none⟩ vN).setCell ⟨w.heap.size + 1 + 1 + 1 + 1, 0, none⟩ (vI (G (K + 1)).2) = W9 at *; have hK2W : Kept (fun i => i < W2.heap.size ∧ i ≠ d ∧ i ≠ sb ∧ i ≠ mb ∧ i ≠ w.heap.size + 1 + 1 + 1 ∧ i ≠ w.heap.size + 1 + 1 + 1 + 1) W2 W9 := (hK26.mono fun i hi => by omega).trans (hKS.mono fun i hi => by omega); refine ⟨keepsFrom_kept hK2W (fun i h1 h2 => by omega), rfl, ?_⟩; refine ⟨o3, ?_, ?_, ?_, hfrW.trans (hKS.mono fun i hi => by omega), Nat.le_trans (by omega) hKS.size⟩
     · rw [HPL1.out]
       exact o4
     · rw [HPL1.out]
       exact HD6.out.kept hKS (by omega) (by omega) (by omega)
     · rw [HPL1.out]
       exact HE.out
 case done =>
   rintro D' xs W hD rfl hI hK; have hok := hI.ok; have hdv := hI.dv; have hfr := hI.fr; have hsz := hI.sz; rw [partsOf_len] at hok hdv
   obtain ⟨v, q, hbt, hq, hql, hqT⟩ : ∃ v q, Ob W (w.heap.size + 1 + 1) 35 #[v] ∧ BytesAt W 0 W.heap.size v q ∧ q.length ≤ 63 ∧ (if q.length = 63 then L.drop (63 * (L.length / 63)) = [] else L.drop (63 * (L.length / 63)) = q) := by
     obtain ⟨v, h1, h2⟩ := hI.bt; rcases h2 with ⟨h2, rfl⟩ | ⟨p, h2, h3⟩
     · have hL0 : L = [] := by
         have h3 := congrArg List.length h2; rw [partsOf_len] at h3; unfold nch at h3; rw [List.length_nil] at h3; exact List.eq_nil_of_length_eq_zero (by omega)
       obtain ⟨A', c', e', hc1, hc2⟩ := ht.form
       cases e'
       refine ⟨_, [], h1, ?_, by simp, ?_⟩
       · rw [HTL.out hL0]
         exact Sl.zero hc2
       · rw [if_neg (by simp), hL0]
         rfl
     · obtain ⟨m, hm, rfl⟩ := last_parts h2
       obtain ⟨h4, h5⟩ := rest_last hm; exact ⟨v, _, h1, h3.wide (Nat.zero_le _) (by have := HLH.out; omega), h4, h5⟩
   have k3 := hI.br; have k4 := hI.be; have HOK := hdd hok; clear hok; clear hI; obtain ⟨Aq, cq, rfl, -⟩ := hq.form; have c2 := hbt.cell (j := 0) (v := .slice Aq q.length cq) rfl; have f2 := hbt.frozen 0; obtain ⟨T, hT⟩ : ∃ T, L.drop (63 * (L.length / 63)) = T := ⟨_, rfl⟩; have HT := hdd hT; have hTl : T.length ≤ 63 := by rw [← hT, List.length_drop]; omega
   rw [hT] at hqT; have HHK := hdd hK; have hLH := HLH.out; clear hT HTL hLl hcr hcm hI0 hL10 HL10 g1 g2 hlh S6
   by_cases h63 : q.length = 63
   · rw [if_pos h63] at hqT
     subst hqT; have hd : ((q.length : Int) == 63) = true := by rw [h63]; rfl
     have gt := grownBy_set W (w.heap.size + 1 + 1) 0 vN; have k3c := k3.other (b' := w.heap.size + 1 + 1) (by omega) 0 vN; have k4c := k4.other (b' := w.heap.size + 1 + 1) (by omega) 0 vN; have c2c := (hbt.set 0 vN).cell (j := 0) (v := vN) rfl; have hdvc := hdv.kept (Kept.of_grown (Fr := fun i => i < w.heap.size) gt (fun i hi => ⟨by omega, fun e => by cases e; omega⟩)) hdb hsb hmb; have hKc : (W.setCell ⟨w.heap.size + 1 + 1, 0, none⟩ vN).heap[D']? = some (.deferred (some [])) := (gt.block D' (Array.getElem?_eq_some_iff.1 hK).1 (fun e => by cases e; omega)).trans hK; have hfrc := hfr.trans (Kept.of_grown (Fr := fun i => i < w.heap.size ∧ i ≠ d ∧ i ≠ sb ∧ i ≠ mb) gt (fun i hi => ⟨by omega, fun e => by cases e; omega⟩)); have hcl : BytesAt (W.setCell ⟨w.heap.size + 1 + 1, 0, none⟩ vN) 0 (W.setCell ⟨w.heap.size + 1 + 1, 0, none⟩ vN).heap.size vN [] := BytesAt.nil _ _ _; have hszc := gt.size; obtain ⟨T, hT2⟩ : ∃ T : List UInt8, T = [] := ⟨_, rfl⟩; rw [← hT2] at hcl HT hTl; have HT2 := hdd hT2; clear hT2; clear gt hbt hK hdv hfr hq k3 k4 HHK
     gi_wp2_with fail
     generalize W.setCell ⟨w.heap.size + 1 + 1, 0, none⟩ vN = Wc at *; refine ⟨trivial, (callsIn_wide.2 (cloneb_calls T _ _ hcl (by omega))).mono ?_⟩; rintro e V ⟨⟨r, rfl, hr⟩, hbV⟩; have k3V := k3c.same hbV; have k4V := k4c.same hbV; have hdvV := hdvc.same hbV; have hKV := (hbV.block D' (Array.getElem?_eq_some_iff.1 hKc).1).trans hKc; have hVs := hbV.size; obtain ⟨Ax, cx, rfl, -⟩ := (BytesAt.of_own hr).form; have x3 := k3V.cell (j := 0) (v := vN) rfl; have x4 := k4V.cell (j := 0) (v := vO) rfl; have y3 := k3V.frozen 0; have y4 := k4V.frozen 0; have g1 := grownBy_set V (w.heap.size + 1 + 1 + 1) 0 (.slice Ax T.length cx); have g2 := grownBy_set (V.setCell ⟨w.heap.size + 1 + 1 + 1, 0, none⟩ (.slice Ax T.length cx)) (w.heap.size + 1 + 1 + 1 + 1) 0 vO; have o3 := (k3V.set 0 (.slice Ax T.length cx)).other (b' := w.heap.size + 1 + 1 + 1 + 1) (by omega) 0 vO; have o4 := (k4V.other (b' := w.heap.size + 1 + 1 + 1) (by omega) 0 (.slice Ax T.length cx)).set 0 vO; have hrne : ∀ g, (Value.slice Ax T.length cx).ownBlock = some g → Wc.heap.size ≤ g ∧ g < V.heap.size := fun g hg => hr.lt g hg
     have hr2 := (hr.kept g1 (.inr (fun e => by have := (hrne _ e).1; omega))).kept g2 (.inr (fun e => by have := (hrne _ e).1; omega))
     have hK2 : ((V.setCell ⟨w.heap.size + 1 + 1 + 1, 0, none⟩ (.slice Ax T.length cx)).setCell ⟨w.heap.size + 1 + 1 + 1 + 1, 0, none⟩ vO).heap[D']? = some (.deferred (some [])) := by
       refine (g2.block D' (by simp; have := (Array.getElem?_eq_some_iff.1 hKV).1; omega) (fun e => by cases e; omega)).trans ?_; exact (g1.block D' (Array.getElem?_eq_some_iff.1 hKV).1 (fun e => by cases e; omega)).trans hKV
     have hkS := (Kept.of_grown (Fr := fun i => i < V.heap.size ∧ i ≠ w.heap.size + 1 + 1 + 1 ∧ i ≠ w.heap.size + 1 + 1 + 1 + 1) g1 (fun i hi => ⟨hi.1, fun e => hi.2.1 (Option.some.inj e)⟩)).trans (Kept.of_grown g2 (fun i hi => ⟨by simpa using hi.1, fun e => hi.2.2 (Option.some.inj e)⟩)); clear hr g1 g2 k3V k4V; gi_wp2; refine ⟨by simp, .inl ⟨_, _, rfl, run_takeDeferred hK2, ?_⟩⟩; rw [HTLB.out, HT.out, HOK.out]; have gp := grownBy_putObj' ((V.setCell ⟨w.heap.size + 1 + 1 + 1, 0, none⟩ (.slice Ax T.length cx)).setCell ⟨w.heap.size + 1 + 1 + 1 + 1, 0, none⟩ vO) D' (.deferred none); have z3 := (It.boxed_end o3 hK2).cell; have z4 := (It.boxed_end o4 hK2).cell
     have hr3 := hr2.kept gp (.inr (fun e => by
       have h1 := hrne _ e; have h2 := (Array.getElem?_eq_some_iff.1 hKc).1; omega))
     have hkP := (hkS.mono (Fr' := fun i => i < V.heap.size ∧ i ≠ w.heap.size + 1 + 1 + 1 ∧ i ≠ w.heap.size + 1 + 1 + 1 + 1 ∧ i ≠ D') (fun i hi => ⟨hi.1, hi.2.1, hi.2.2.1⟩)).trans (Kept.of_grown gp (fun i hi => ⟨by simpa using hi.1, fun e => hi.2.2.2 (Option.some.inj e)⟩)); refine ⟨.tuple #[.slice Ax T.length cx, vO], ?_, ⟨_, rfl, fun _ => row_wide hr3 (by omega), fun h => absurd rfl h⟩, hdvV.kept hkP (by omega) (by omega) (by omega), ?_⟩
     · simp [results, Tryz.f166, go_sem, z3, z4]
     · exact (Kept.of_below HB10.out fun i hi => hi.1).trans (hfrc.trans ((Kept.of_below hbV fun i hi => by omega).trans (hkP.mono fun i hi => by omega)))
   · rw [if_neg h63] at hqT
     subst hqT; have hd : ((T.length : Int) == 63) = false := by simp; omega
     have hcl := hq; have hdvc := hdv; have k3c := k3; have k4c := k4; have hKc := hK; have hfrc := hfr; clear hbt hK hdv hfr hq k3 k4 HHK
     gi_wp2_with fail
     refine ⟨trivial, (callsIn_wide.2 (cloneb_calls T _ _ hcl (by omega))).mono ?_⟩; rintro e V ⟨⟨r, rfl, hr⟩, hbV⟩; have k3V := k3c.same hbV; have k4V := k4c.same hbV; have hdvV := hdvc.same hbV; have hKV := (hbV.block D' (Array.getElem?_eq_some_iff.1 hKc).1).trans hKc; have hVs := hbV.size; obtain ⟨Ax, cx, rfl, -⟩ := (BytesAt.of_own hr).form; have x3 := k3V.cell (j := 0) (v := vN) rfl; have x4 := k4V.cell (j := 0) (v := vO) rfl; have y3 := k3V.frozen 0; have y4 := k4V.frozen 0; have g1 := grownBy_set V (w.heap.size + 1 + 1 + 1) 0 (.slice Ax T.length cx); have g2 := grownBy_set (V.setCell ⟨w.heap.size + 1 + 1 + 1, 0, none⟩ (.slice Ax T.length cx)) (w.heap.size + 1 + 1 + 1 + 1) 0 vO; have o3 := (k3V.set 0 (.slice Ax T.length cx)).other (b' := w.heap.size + 1 + 1 + 1 + 1) (by omega) 0 vO; have o4 := (k4V.other (b' := w.heap.size + 1 + 1 + 1) (by omega) 0 (.slice Ax T.length cx)).set 0 vO; have hrne : ∀ g, (Value.slice Ax T.length cx).ownBlock = some g → W.heap.size ≤ g ∧ g < V.heap.size := fun g hg => hr.lt g hg
     have hr2 := (hr.kept g1 (.inr (fun e => by have := (hrne _ e).1; omega))).kept g2 (.inr (fun e => by have := (hrne _ e).1; omega))
     have hK2 : ((V.setCell ⟨w.heap.size + 1 + 1 + 1, 0, none⟩ (.slice Ax T.length cx)).setCell ⟨w.heap.size + 1 + 1 + 1 + 1, 0, none⟩ vO).heap[D']? = some (.deferred (some [])) := by
       refine (g2.block D' (by simp; have := (Array.getElem?_eq_some_iff.1 hKV).1; omega) (fun e => by cases e; omega)).trans ?_; exact (g1.block D' (Array.getElem?_eq_some_iff.1 hKV).1 (fun e => by cases e; omega)).trans hKV
     have hkS := (Kept.of_grown (Fr := fun i => i < V.heap.size ∧ i ≠ w.heap.size + 1 + 1 + 1 ∧ i ≠ w.heap.size + 1 + 1 + 1 + 1) g1 (fun i hi => ⟨hi.1, fun e => hi.2.1 (Option.some.inj e)⟩)).trans (Kept.of_grown g2 (fun i hi => ⟨by simpa using hi.1, fun e => hi.2.2 (Option.some.inj e)⟩)); clear hr g1 g2 k3V k4V; gi_wp2; refine ⟨by simp, .inl ⟨_, _, rfl, run_takeDeferred hK2, ?_⟩⟩; rw [HTLB.out, HT.out, HOK.out]; have gp := grownBy_putObj' ((V.setCell ⟨w.heap.size + 1 + 1 + 1, 0, none⟩ (.slice Ax T.length cx)).setCell ⟨w.heap.size + 1 + 1 + 1 + 1, 0, none⟩ vO) D' (.deferred none); have z3 := (It.boxed_end o3 hK2).cell; have z4 := (It.boxed_end o4 hK2).cell
     have hr3 := hr2.kept gp (.inr (fun e => by
       have h1 := hrne _ e; have h2 := (Array.getElem?_eq_some_iff.1 hKc).1; omega))
     have hkP := (hkS.mono (Fr' := fun i => i < V.heap.size ∧ i ≠ w.heap.size + 1 + 1 + 1 ∧ i ≠ w.heap.size + 1 + 1 + 1 + 1 ∧ i ≠ D') (fun i hi => ⟨hi.1, hi.2.1, hi.2.2.1⟩)).trans (Kept.of_grown gp (fun i hi => ⟨by simpa using hi.1, fun e => hi.2.2.2 (Option.some.inj e)⟩)); refine ⟨.tuple #[.slice Ax T.length cx, vO], ?_, ⟨_, rfl, fun _ => row_wide hr3 (by omega), fun h => absurd rfl h⟩, hdvV.kept hkP (by omega) (by omega) (by omega), ?_⟩
     · simp [results, Tryz.f166, go_sem, z3, z4]
     · exact (Kept.of_below HB10.out fun i hi => hi.1).trans (hfrc.trans ((Kept.of_below hbV fun i hi => by omega).trans (hkP.mono fun i hi => by omega)))
 case stop =>
   rintro D' c pre W hD hpre ⟨rfl, hX⟩ hK; obtain ⟨k3, k4, hdv, hbad, hfr, hsz⟩ := hX
   have hle : pre.length ≤ nch L := by
     have := hpre.length_le
     rwa [partsOf_len] at this
   have hG := HGB.out pre.length (nch L) hbad hle; rw [← hG] at k4 hdv hbad; have HBad := hdd hbad; clear hbad hG; gi_wp2; refine ⟨by simp, .inl ⟨_, _, rfl, run_takeDeferred hK, ?_⟩⟩; rw [HTLB.out]; have hLH := HLH.out; have gp := grownBy_putObj' W D' (.deferred none); have z3 := (It.boxed_end k3 hK).cell; have z4 := (It.boxed_end k4 hK).cell; have hkP := Kept.of_grown (Fr := fun i => i < W.heap.size ∧ i ≠ D') gp (fun i hi => ⟨hi.1, fun e => hi.2 (Option.some.inj e)⟩); refine ⟨.tuple #[vN, vI (G (nch L)).2], ?_, ⟨_, rfl, fun h => absurd h HBad.out, fun _ => rfl⟩, hdv.kept hkP (by omega) (by omega) (by omega), ?_⟩
   · simp [results, Tryz.f166, go_sem, z3, z4]
   · exact (Kept.of_below HB10.out fun i hi => hi.1).trans (hfr.trans (hkP.mono fun i hi => by omega))
end
end
section
open Go.RowKit Go.Maps
open Ce Se
def fnV (p2 p5 p6 p7 p8 pd : Value) : Array Value := #[.func (.func 165) #[] #[p2, p6, p7, p8], .func (.func 167) #[] #[p2, p6, p7], .func (.func 169) #[pd] #[], .func (.func 170) #[] #[p2, p5, p6], .func (.func 169) #[pd] #[]]
def Step (S : World → Prop) (E : Int → World → Prop) (e : Ending) (w' : World) : Prop := ∃ c : Int, e = .returned (vI c) ∧ (c = 0 → S w') ∧ (c ≠ 0 → E c w')
theorem steps_calls (w : World) (fb : Nat) (p2 p5 p6 p7 p8 pd : Value) (S : Nat → World → Prop) (E : Int → World → Prop) (h0 : S 0 w)
   (hb : ∀ k W, S k W → Ob W fb 115 (fnV p2 p5 p6 p7 p8 pd))
   (c0 : ∀ W, S 0 W → Calls Tryz.prog 165 #[p2, p6, p7, p8] W (Step (S 1) E))
   (c1 : ∀ W, S 1 W → Calls Tryz.prog 167 #[p2, p6, p7] W (Step (S 2) E))
   (c2 : ∀ W, S 2 W → Calls Tryz.prog 169 #[pd] W (Step (S 3) E))
   (c3 : ∀ W, S 3 W → Calls Tryz.prog 170 #[p2, p5, p6] W (Step (S 4) E))
   (c4 : ∀ W, S 4 W → Calls Tryz.prog 169 #[pd] W (Step (S 5) E)) :
   Calls Tryz.prog 164 #[.slice (some ⟨fb, 0, none⟩) 5 5] w (Step (S 5) E) := by
 have C0 := hdd c0; have C1 := hdd c1; have C2 := hdd c2; have C3 := hdd c3; have C4 := hdd c4; have HB := hdd hb; clear c0 c1 c2 c3 c4 hb
 go_enter Tryz.func164, Tryz.ntmps164
 go_wp2
 go_loopw [4, 5, 8] (fun _ _ i wr => ∃ k : Nat, k ≤ 5 ∧ i = vI k ∧ S k wr) (fun _ _ i _ => 5 - (intOf i).toNat)
 case atStart => exact ⟨0, by omega, rfl, h0⟩
 case round =>
   obtain ⟨k, hk, rfl, hS⟩ := hrel; have hO := HB.out _ _ hS
   by_cases hlt : k < 5
   · obtain rfl | rfl | rfl | rfl | rfl : k = 0 ∨ k = 1 ∨ k = 2 ∨ k = 3 ∨ k = 4 := by omega
     · have y := hO.cell (j := 0) (v := (.func (.func 165) #[] #[p2, p6, p7, p8])) rfl
       have cK := hdd (C0.out _ hS); go_wp2_with fail; refine cK.out.mono ?_; rintro e W ⟨c, rfl, hc0, hc1⟩
       by_cases hc : c = 0
       · subst hc
         have hS2 := hc0 rfl; clear hc0 hc1; go_wp2
         go_roundw
         case rel => exact ⟨1, by omega, by go_num, hS2⟩
         case measure => simp [intOf]
       · have hE := hc1 hc
         have hne : (c != 0) = true := by simpa using hc
         clear hc0 hc1; go_wp2; go_ret; exact ⟨c, rfl, fun h => absurd h hc, fun _ => hE⟩
     · have y := hO.cell (j := 1) (v := (.func (.func 167) #[] #[p2, p6, p7])) rfl
       have cK := hdd (C1.out _ hS); go_wp2_with fail; refine cK.out.mono ?_; rintro e W ⟨c, rfl, hc0, hc1⟩
       by_cases hc : c = 0
       · subst hc
         have hS2 := hc0 rfl; clear hc0 hc1; go_wp2
         go_roundw
         case rel => exact ⟨2, by omega, by go_num, hS2⟩
         case measure => simp [intOf]
       · have hE := hc1 hc
         have hne : (c != 0) = true := by simpa using hc
         clear hc0 hc1; go_wp2; go_ret; exact ⟨c, rfl, fun h => absurd h hc, fun _ => hE⟩
     · have y := hO.cell (j := 2) (v := (.func (.func 169) #[pd] #[])) rfl
       have cK := hdd (C2.out _ hS); go_wp2_with fail; refine cK.out.mono ?_; rintro e W ⟨c, rfl, hc0, hc1⟩
       by_cases hc : c = 0
       · subst hc
         have hS2 := hc0 rfl; clear hc0 hc1; go_wp2
         go_roundw
         case rel => exact ⟨3, by omega, by go_num, hS2⟩
         case measure => simp [intOf]
       · have hE := hc1 hc
         have hne : (c != 0) = true := by simpa using hc
         clear hc0 hc1; go_wp2; go_ret; exact ⟨c, rfl, fun h => absurd h hc, fun _ => hE⟩
     · have y := hO.cell (j := 3) (v := (.func (.func 170) #[] #[p2, p5, p6])) rfl
       have cK := hdd (C3.out _ hS); go_wp2_with fail; refine cK.out.mono ?_; rintro e W ⟨c, rfl, hc0, hc1⟩
       by_cases hc : c = 0
       · subst hc
         have hS2 := hc0 rfl; clear hc0 hc1; go_wp2
         go_roundw
         case rel => exact ⟨4, by omega, by go_num, hS2⟩
         case measure => simp [intOf]
       · have hE := hc1 hc
         have hne : (c != 0) = true := by simpa using hc
         clear hc0 hc1; go_wp2; go_ret; exact ⟨c, rfl, fun h => absurd h hc, fun _ => hE⟩
     · have y := hO.cell (j := 4) (v := (.func (.func 169) #[pd] #[])) rfl
       have cK := hdd (C4.out _ hS); go_wp2_with fail; refine cK.out.mono ?_; rintro e W ⟨c, rfl, hc0, hc1⟩
       by_cases hc : c = 0
       · subst hc
         have hS2 := hc0 rfl; clear hc0 hc1; go_wp2
         go_roundw
         case rel => exact ⟨5, by omega, by go_num, hS2⟩
         case measure => simp [intOf]
       · have hE := hc1 hc
         have hne : (c != 0) = true := by simpa using hc
         clear hc0 hc1; go_wp2; go_ret; exact ⟨c, rfl, fun h => absurd h hc, fun _ => hE⟩
   · obtain rfl : k = 5 := by omega
     go_wp2; go_ret; exact ⟨0, rfl, fun _ => hS, fun h => absurd rfl h⟩
end
section
open Go.RowKit Go.Maps
open Ce Se
section
variable {w w' : World} {base b d sb mb p2 p5 p6 p7 p8 : Nat} {D D' : Dv} {half : Nat} {av : Value} {L : List UInt8}
theorem anew1_calls (h : DvAt w base d sb mb D) (h4 : 4 ≤ D.sure.length) (hc : w.cell? ⟨b, 0, none⟩ = some (.pointer (some ⟨d, 0, none⟩))) (hbl : b < w.heap.size) (hbd : b ≠ d ∧ b ≠ sb ∧ b ≠ mb) (hh : half ≤ 1)
   (b2 : Ob w p2 122 #[.pointer (some ⟨b, 0, none⟩)]) (b6 : Ob w p6 3 #[vI half]) (b7 : Ob w p7 35 #[av]) (b8 : Ob w p8 35 #[vN]) (hp8 : p8 ≠ d ∧ p8 ≠ sb ∧ p8 ≠ mb) (ha : BytesAt w 0 w.heap.size av L) (hl : L.length ≤ 600000) :
   Calls Tryz.prog 165 #[.pointer (some ⟨p2, 0, none⟩), .pointer (some ⟨p6, 0, none⟩), .pointer (some ⟨p7, 0, none⟩), .pointer (some ⟨p8, 0, none⟩)] w fun e w' =>
     e = .returned (vI (wrG writeD D (Wa.base half (szD D)) (chF L) (nch L)).2) ∧ DvAt w' base d sb mb (wrG writeD D (Wa.base half (szD D)) (chF L) (nch L)).1 ∧
     (∃ v, Ob w' p8 35 #[v] ∧ ((wrG writeD D (Wa.base half (szD D)) (chF L) (nch L)).2 = 0 → w'.ownsRow w.heap.size 5 1 v (L.drop (63 * (L.length / 63))).length (bytesV (L.drop (63 * (L.length / 63)))))) ∧
     Kept (fun i => i < w.heap.size ∧ i ≠ d ∧ i ≠ sb ∧ i ≠ mb ∧ i ≠ p8) w w' := by
 have y2 := b2.cell (j := 0) (v := .pointer (some ⟨b, 0, none⟩)) rfl; have y6 := b6.cell (j := 0) (v := vI half) rfl; have y7 := b7.cell (j := 0) (v := av) rfl; have cP := put_calls h h4 hc hbl hbd half 0 hh (by omega) [] L vN av (BytesAt.nil _ _ _) ha (by simp; omega); rw [List.nil_append, show Wa.base half (szD D) + ((0 / 63 : Nat) : Int) = Wa.base half (szD D) by simp] at cP; have CP := hdd cP; have hp8l := b8.lt; have hdl := h.ob.lt; have hsl := h.sure.lt; have hml := h.map.lt; generalize wrG writeD D (Wa.base half (szD D)) (chF L) (nch L) = R at *; obtain ⟨A, c, rfl, -⟩ := ha.form; clear cP h hc ha
 go_enter Tryz.func165, Tryz.ntmps165
 go_wp2_with fail; refine CP.out.mono ?_; rintro e W ⟨⟨v, rfl, hv0, hv1⟩, hD, hK⟩; have hk8 := Kept.ob hK b8 ⟨hp8l, hp8⟩; have hWs := Kept.size hK
 obtain ⟨A5, n5, c5, rfl⟩ : ∃ A n c, v = .slice A n c := by
   by_cases hr : R.2 = 0
   · obtain ⟨A, c, e, -⟩ := (Sl.of_own (hv0 hr)).at_
     exact ⟨_, _, _, e⟩
   · exact ⟨_, _, _, hv1 hr⟩
 have z8 := hk8.cell (j := 0) (v := vN) rfl; have f8 := hk8.frozen 0; have g1 := grownBy_set W p8 0 (.slice A5 n5 c5); have o8 := hk8.set 0 (.slice A5 n5 c5); have HV := hdd hv0; have HK := hdd hK; have HD := hdd hD; clear hv0 hv1 hK hD; go_wp2; go_ret; refine ⟨rfl, HD.out.kept (Kept.of_grown (Fr := fun i => i < w.heap.size ∧ i ≠ p8) g1 fun i hi => ⟨by omega, fun e => hi.2 (Option.some.inj e)⟩) (by omega) (by omega) (by omega), ⟨_, o8, fun hr => (HV.out hr).kept g1 (.inr fun e => by have := ((HV.out hr).lt p8 e).1; omega)⟩, ?_⟩; exact (Kept.mono HK.out fun i hi => ⟨hi.1, hi.2.1, hi.2.2.1, hi.2.2.2.1⟩).trans (Kept.of_grown g1 fun i hi => ⟨by omega, fun e => hi.2.2.2.2 (Option.some.inj e)⟩)
theorem anew2_calls (h : DvAt w base d sb mb D) (h4 : 4 ≤ D.sure.length) (hc : w.cell? ⟨b, 0, none⟩ = some (.pointer (some ⟨d, 0, none⟩))) (hbl : b < w.heap.size) (hbd : b ≠ d ∧ b ≠ sb ∧ b ≠ mb) (hh : half ≤ 1)
   (b2 : Ob w p2 122 #[.pointer (some ⟨b, 0, none⟩)]) (b6 : Ob w p6 3 #[vI half]) (b7 : Ob w p7 35 #[av]) (ha : BytesAt w 0 w.heap.size av L) (hl : L.length ≤ 63 * szD D) :
   Calls Tryz.prog 167 #[.pointer (some ⟨p2, 0, none⟩), .pointer (some ⟨p6, 0, none⟩), .pointer (some ⟨p7, 0, none⟩)] w fun e w' =>
     e = .returned (vI (wrG writeD D (Wa.base half (szD D) + nch L) (fun _ => List.replicate 64 0) (szD D - nch L)).2) ∧ DvAt w' base d sb mb (wrG writeD D (Wa.base half (szD D) + nch L) (fun _ => List.replicate 64 0) (szD D - nch L)).1 ∧ Dev d sb mb w w' := by
 have hlen := h.len; have y2 := b2.cell (j := 0) (v := .pointer (some ⟨b, 0, none⟩)) rfl; have y6 := b6.cell (j := 0) (v := vI half) rfl; have y7 := b7.cell (j := 0) (v := av) rfl; have hn := nch_le hl; have hz : szD D ≤ 8191 := by unfold szD; omega
 have CC := hdd (clear_calls h h4 hc hbl hbd half (nch L) hh hn); generalize wrG writeD D (Wa.base half (szD D) + nch L) (fun _ => List.replicate 64 0) (szD D - nch L) = R at *; have HN := hdd (show ((L.length : Int) + 63 - 1) / 63 = ((nch L : Nat) : Int) by unfold nch; omega); obtain ⟨A, c, rfl, -⟩ := ha.form; have hll : L.length ≤ 600000 := by omega
 clear h hc ha hl
 go_enter Tryz.func167, Tryz.ntmps167
 go_wp2_with fail; rw [HN.out]; refine CC.out.mono ?_; rintro e W ⟨rfl, hD, hK⟩; have HD := hdd hD; have HK := hdd hK; clear hD hK; go_wp2; go_ret; exact ⟨rfl, HD.out, HK.out⟩
theorem anew3_calls (h : DvAt w base d sb mb D) (hc : w.cell? ⟨b, 0, none⟩ = some (.pointer (some ⟨d, 0, none⟩))) (hbl : b < w.heap.size) (hbd : b ≠ d ∧ b ≠ sb ∧ b ≠ mb) (hh : half ≤ 1) (g : Int) (hg0 : -9223372036854775808 ≤ g) (hg1 : g < 9223372036854775808)
   (b2 : Ob w p2 122 #[.pointer (some ⟨b, 0, none⟩)]) (b5 : Ob w p5 3 #[vI g]) (b6 : Ob w p6 3 #[vI half]) (hp2 : p2 ≠ d ∧ p2 ≠ sb ∧ p2 ≠ mb) (hp5 : p5 ≠ d ∧ p5 ≠ sb ∧ p5 ≠ mb) (hp6 : p6 ≠ d ∧ p6 ≠ sb ∧ p6 ≠ mb) :
   Calls Tryz.prog 170 #[.pointer (some ⟨p2, 0, none⟩), .pointer (some ⟨p5, 0, none⟩), .pointer (some ⟨p6, 0, none⟩)] w fun e w' =>
     e = .returned (vI (writeD D (g.tmod 2) (headB g half)).2) ∧ DvAt w' base d sb mb (writeD D (g.tmod 2) (headB g half)).1 ∧ Dev d sb mb w w' := by
 have hdr := (Below.refl w.heap.size w).drew; have q2 := b2.same hdr; have q5 := b5.same hdr; have q6 := b6.same hdr; have qc := (hdr.cell (p := ⟨b, 0, none⟩) hbl).trans hc; have hD := h.same hdr; have hdl := h.ob.lt; have hml := h.map.lt; have CH := hdd (fun W => head_calls g half hh W hg0 hg1); have HDv := hdd hD; have HKd := hdd (Dev.of_below (d := d) (sb := sb) (mb := mb) hdr); have hds := hdr.size; clear h hc hD
 go_enter Tryz.func170, Tryz.ntmps170
 go_wp2_with fail
 refine Pu.regionM [(0, false), (1, false), (2, false), (3, false), (4, false), (5, false), (6, false), (7, false), (8, true), (9, true), (10, false)]
   (fun V => Ob V p2 122 #[.pointer (some ⟨b, 0, none⟩)] ∧ Ob V p5 3 #[vI g] ∧ Ob V p6 3 #[vI half] ∧ V.cell? ⟨b, 0, none⟩ = some (.pointer (some ⟨d, 0, none⟩)))
   hmx (by kernel_rfl) (by kernel_rfl) (by kernel_rfl) ⟨q2, q5, q6, qc⟩ rfl ?_
 simp only [Pu.named, List.filterMap_cons, List.filterMap_nil, zzJ, zzK, zzL, zzM]
 iterate 8 (apply Pu.WalkM.on (by rfl)
            · rintro V ⟨k2, k5, k6, kc⟩
              have z2 := k2.cell (j := 0) (v := .pointer (some ⟨b, 0, none⟩)) rfl; have z5 := k5.cell (j := 0) (v := vI g) rfl; have z6 := k6.cell (j := 0) (v := vI half) rfl; go_wp2_with fail; refine ⟨rfl, ?_, rfl⟩
              try simp only [Act.put, zzA, zzB, zzC]
              rfl
            simp only [Act.put, zzA, zzB, zzC])
 refine Pu.WalkM.make (by rfl) ?_; rintro V rfl; go_wp2_with (go_at_call 172; refine (CH.out _).mono ?_; rintro e W1 ⟨⟨v1, rfl, hv1⟩, hb1⟩)
 have hv2 : BytesAt W1 w.drew.heap.size W1.heap.size v1 (headB g half) := by
   unfold BytesAt; rw [headB_len]; exact Sl.of_own hv1
 have hB1 := hb1; have k2 := q2.same hb1; have k5 := q5.same hb1; have k6 := q6.same hb1; have kc := (hb1.cell (p := ⟨b, 0, none⟩) (by show b < w.drew.heap.size; omega)).trans qc; have cW := write_calls (HDv.out.same hb1) (g.tmod 2) (headB g half) _ _ _ hv2 (Nat.le_refl _) (by omega) (by omega); obtain ⟨A1, c1, rfl, -⟩ := hv2.form; have CW := hdd cW; clear cW hv2 hv1 hb1; generalize (headB g half).length = n1 at *; refine Pu.mk3 (.slice A1 n1 c1) ⟨k2, k5, k6, kc⟩ ?_ ?_
 · try simp only [Act.put, zzA, zzB, zzC]
   try rfl
 simp only [Act.put, zzA, zzB, zzC]; refine Pu.WalkM.make (by rfl) ?_; rintro V rfl; go_wp2_with (go_at_call 171; refine CW.out.mono ?_; rintro e W3 ⟨rfl, hD3, hK3⟩); have hs3 := hB1.size; have r2 := Kept.ob hK3 k2 ⟨by have := q2.lt; omega, hp2⟩; have r5 := Kept.ob hK3 k5 ⟨by have := q5.lt; omega, hp5⟩; have r6 := Kept.ob hK3 k6 ⟨by have := q6.lt; omega, hp6⟩; have rc := (Dev.cell (p := ⟨b, 0, none⟩) hK3 (by show b < V.heap.size; omega) hbd.1 hbd.2.1 hbd.2.2).trans kc; refine ⟨rfl, vI (writeD D (g.tmod 2) (headB g half)).2, (fun V => V = W3), (fun V => V = W3), ?_, rfl, (fun _ h => h), (.inr (fun V h => by rw [h]; exact ⟨r2, r5, r6, rc⟩)), ?_⟩
 · try simp only [Act.put, zzA, zzB, zzC]
   try rfl
 simp only [Act.put, zzA, zzB, zzC]
 iterate 1 (apply Pu.WalkM.on (by rfl)
            · rintro V hV
              rw [hV]; go_wp2_with fail; refine ⟨rfl, ?_, rfl⟩
              try simp only [Act.put, zzA, zzB, zzC]
              rfl
            simp only [Act.put, zzA, zzB, zzC])
 refine Pu.WalkM.nil ?_; rintro V' rfl; have HD3 := hdd hD3; have HK3 := hdd hK3; clear hD3 hK3; go_wp2; go_ret; exact ⟨rfl, HD3.out, Dev.trans (Dev.trans HKd.out (Dev.of_below hB1)) HK3.out⟩
end
end
section
open Go.RowKit Go.Maps
open Ce Se
structure AnS (w : World) (b d sb mb p5 p6 p7 fb : Nat) (g : Int) (half : Nat) (lc : Array Value) (av : Value) (L : List UInt8) (W : World) : Prop where
 bf : Ob W fb 115 (fnV (.pointer (some ⟨w.heap.size, 0, none⟩)) (.pointer (some ⟨p5, 0, none⟩)) (.pointer (some ⟨p6, 0, none⟩)) (.pointer (some ⟨p7, 0, none⟩)) (.pointer (some ⟨p7 + 1, 0, none⟩)) (.pointer (some ⟨d, 0, none⟩)))
 b2 : Ob W w.heap.size 122 #[.pointer (some ⟨b, 0, none⟩)]
 b5 : Ob W p5 3 #[vI g]
 b6 : Ob W p6 3 #[vI half]
 b7 : Ob W p7 35 #[av]
 av : EntAt W (fun i => w.heap.size ≤ i ∧ i ≠ p7 + 1) av L
 lg : Ob W b 218 lc
 lc0 : lc[0]? = some (.pointer (some ⟨d, 0, none⟩))
 fr : Kept (fun i => i < w.heap.size ∧ i ≠ b ∧ i ≠ d ∧ i ≠ sb ∧ i ≠ mb) w W
structure AnN (w : World) (b d sb mb p5 p6 p7 fb : Nat) : Prop where
 dv : d < w.heap.size ∧ sb < w.heap.size ∧ mb < w.heap.size ∧ b < w.heap.size
 ne : b ≠ d ∧ b ≠ sb ∧ b ≠ mb
 bx : w.heap.size < p5 ∧ w.heap.size < p6 ∧ w.heap.size < p7 ∧ p5 < p7 ∧ p6 < p7 ∧ p7 + 1 < fb
section
variable {w W W' : World} {base b d sb mb p5 p6 p7 fb : Nat} {D : Dv} {g : Int} {half : Nat} {lc : Array Value} {av : Value} {L : List UInt8}
theorem AnS.kept (h : AnS w b d sb mb p5 p6 p7 fb g half lc av L W) (hn : AnN w b d sb mb p5 p6 p7 fb) (hk : Kept (fun i => i < W.heap.size ∧ i ≠ d ∧ i ≠ sb ∧ i ≠ mb ∧ i ≠ p7 + 1) W W') : AnS w b d sb mb p5 p6 p7 fb g half lc av L W' := by
 obtain ⟨n1, n2, n3⟩ := hn; have l1 := h.bf.lt; have l2 := h.b2.lt; have l3 := h.b5.lt; have l4 := h.b6.lt; have l5 := h.b7.lt; have l6 := h.lg.lt; have hs := h.fr.size; refine ⟨hk.ob h.bf (by omega), hk.ob h.b2 (by omega), hk.ob h.b5 (by omega), hk.ob h.b6 (by omega), hk.ob h.b7 (by omega), ?_, hk.ob h.lg (by omega), h.lc0, h.fr.trans (hk.mono fun i hi => by omega)⟩; exact (h.av.lt.kept (hk.mono fun i hi => by omega)).mono fun i hi => hi.1
theorem EntAt.dev {v : Value} {l : List UInt8} {B : Nat} (h : EntAt W (fun i => B ≤ i) v l) (hk : Dev d sb mb W W') (hd : d < B ∧ sb < B ∧ mb < B) : EntAt W' (fun i => B ≤ i) v l :=
 (h.lt.kept (Kept.mono hk fun i hi => by omega)).mono fun i hi => hi.1
theorem anew_steps (hA : AnS w b d sb mb p5 p6 p7 fb g half lc av L W) (hn : AnN w b d sb mb p5 p6 p7 fb) (h : DvAt W base d sb mb D) (h4 : 4 ≤ D.sure.length) (hh : half ≤ 1) (hg0 : -9223372036854775808 ≤ g) (hg1 : g < 9223372036854775808) (b8 : Ob W (p7 + 1) 35 #[vN]) (hl : L.length ≤ 63 * szD D)
   {R : Dv × Int} (hR : R = (let r1 := wrG writeD D (Wa.base half (szD D)) (chF L) (nch L)
     if r1.2 ≠ 0 then r1 else
     let r2 := wrG writeD r1.1 (Wa.base half (szD D) + nch L) (fun _ => List.replicate 64 0) (szD D - nch L)
     if r2.2 ≠ 0 then r2 else
     let r3 := flushD r2.1
     if r3.2 ≠ 0 then r3 else
     let r4 := writeD r3.1 (g.tmod 2) (headB g half)
     if r4.2 ≠ 0 then r4 else flushD r4.1)) :
   Calls Tryz.prog 164 #[.slice (some ⟨fb, 0, none⟩) 5 5] W fun e W' => e = .returned (vI R.2) ∧ DvAt W' base d sb mb R.1 ∧ AnS w b d sb mb p5 p6 p7 fb g half lc av L W' ∧
     ∃ v, Ob W' (p7 + 1) 35 #[v] ∧ (R.2 = 0 → EntAt W' (fun i => W.heap.size ≤ i) v (L.drop (63 * (L.length / 63)))) := by
 have hlen := h.len; have hz : szD D ≤ 8191 := by unfold szD; omega
 obtain ⟨n1, n2, n3⟩ := hn; have hn : AnN w b d sb mb p5 p6 p7 fb := ⟨n1, n2, n3⟩; obtain ⟨x1, hx1⟩ : ∃ x, x = wrG writeD D (Wa.base half (szD D)) (chF L) (nch L) := ⟨_, rfl⟩; obtain ⟨x2, hx2⟩ : ∃ x, x = wrG writeD x1.1 (Wa.base half (szD D) + nch L) (fun _ => List.replicate 64 0) (szD D - nch L) := ⟨_, rfl⟩; have e1 : x1.1.sure.length = D.sure.length := by rw [hx1]; exact wrG_len _ _ _ _
 have e2 : x2.1.sure.length = D.sure.length := by rw [hx2, wrG_len, e1]
 have e3 : (flushD x2.1).1.sure.length = D.sure.length := by rw [lenF, e2]
 rw [← hx1] at hR; dsimp only at hR; rw [← hx2] at hR; have hWs := hA.fr.size; obtain ⟨T, hT⟩ : ∃ T, T = L.drop (63 * (L.length / 63)) := ⟨_, rfl⟩
 have hcall := steps_calls W fb (.pointer (some ⟨w.heap.size, 0, none⟩)) (.pointer (some ⟨p5, 0, none⟩)) (.pointer (some ⟨p6, 0, none⟩)) (.pointer (some ⟨p7, 0, none⟩)) (.pointer (some ⟨p7 + 1, 0, none⟩)) (.pointer (some ⟨d, 0, none⟩))
   (fun k V => AnS w b d sb mb p5 p6 p7 fb g half lc av L V ∧ W.heap.size ≤ V.heap.size ∧
     match k with
     | 0 => DvAt V base d sb mb D ∧ Ob V (p7 + 1) 35 #[vN]
     | 1 => DvAt V base d sb mb x1.1 ∧ x1.2 = 0 ∧ ∃ v, Ob V (p7 + 1) 35 #[v] ∧ EntAt V (fun i => W.heap.size ≤ i) v T
     | 2 => DvAt V base d sb mb x2.1 ∧ x1.2 = 0 ∧ x2.2 = 0 ∧ ∃ v, Ob V (p7 + 1) 35 #[v] ∧ EntAt V (fun i => W.heap.size ≤ i) v T
     | 3 => DvAt V base d sb mb (flushD x2.1).1 ∧ x1.2 = 0 ∧ x2.2 = 0 ∧ (flushD x2.1).2 = 0 ∧ ∃ v, Ob V (p7 + 1) 35 #[v] ∧ EntAt V (fun i => W.heap.size ≤ i) v T
     | 4 => DvAt V base d sb mb (writeD (flushD x2.1).1 (g.tmod 2) (headB g half)).1 ∧ x1.2 = 0 ∧ x2.2 = 0 ∧ (flushD x2.1).2 = 0 ∧ (writeD (flushD x2.1).1 (g.tmod 2) (headB g half)).2 = 0 ∧ ∃ v, Ob V (p7 + 1) 35 #[v] ∧ EntAt V (fun i => W.heap.size ≤ i) v T
     | _ => DvAt V base d sb mb R.1 ∧ R.2 = 0 ∧ ∃ v, Ob V (p7 + 1) 35 #[v] ∧ EntAt V (fun i => W.heap.size ≤ i) v T)
   (fun c V => AnS w b d sb mb p5 p6 p7 fb g half lc av L V ∧ DvAt V base d sb mb R.1 ∧ R.2 = c ∧ ∃ v, Ob V (p7 + 1) 35 #[v])
   ⟨hA, Nat.le_refl _, h, b8⟩ (fun k V hV => hV.1.bf) ?_ ?_ ?_ ?_ ?_
 · refine hcall.mono ?_
   rintro e V ⟨c, rfl, h0, h1⟩
   by_cases hc : c = 0
   · subst hc
     obtain ⟨q1, -, q3, q4, v, q5, q6⟩ := h0 rfl; exact ⟨by rw [q4], q3, q1, v, q5, fun _ => by rw [← hT]; exact q6⟩
   · obtain ⟨q1, q2, q3, v, q5⟩ := h1 hc
     exact ⟨by rw [q3], q2, q1, v, q5, fun h => absurd (q3.symm.trans h) hc⟩
 · rintro V ⟨hV, hVs, hd, h8⟩
   have hc := hV.lg.cell (j := 0) hV.lc0; refine (anew1_calls hd h4 hc hV.lg.lt n2 hh hV.b2 hV.b6 hV.b7 h8 (by omega) hV.av.bytes (by omega)).mono ?_; rintro e V' ⟨rfl, q1, ⟨v, q2, q3⟩, q4⟩; rw [← hx1] at q1 q3 ⊢; have hV' := hV.kept hn q4; refine ⟨_, rfl, fun h0 => ⟨hV', Nat.le_trans hVs q4.size, q1, h0, v, q2, ?_⟩, fun h0 => ⟨hV', ?_, ?_, v, q2⟩⟩
   · rw [hT]
     have hr := q3 h0; exact (EntAt.own hr).mono fun i hi => by have := (hr.lt i hi).1; omega
   · rw [hR, if_pos h0]; exact q1
   · rw [hR, if_pos h0]
 · rintro V ⟨hV, hVs, hd, z1, v, h8, hv⟩
   have hc := hV.lg.cell (j := 0) hV.lc0; have c := anew2_calls hd (by omega) hc hV.lg.lt n2 hh hV.b2 hV.b6 hV.b7 hV.av.bytes (by rw [szD_len e1]; exact hl); rw [szD_len e1, ← hx2] at c; refine c.mono ?_; rintro e V' ⟨rfl, q1, q4⟩; have hV' := hV.kept hn (Kept.mono q4 fun i hi => ⟨hi.1, hi.2.1, hi.2.2.1, hi.2.2.2.1⟩); have h8' := Kept.ob q4 h8 ⟨h8.lt, by omega, by omega, by omega⟩; have hv' := EntAt.dev hv q4 (by omega); refine ⟨_, rfl, fun h0 => ⟨hV', Nat.le_trans hVs (Kept.size q4), q1, z1, h0, v, h8', hv'⟩, fun h0 => ⟨hV', ?_, ?_, v, h8'⟩⟩
   · rw [hR, if_neg (by rw [z1]; simp), if_pos h0]; exact q1
   · rw [hR, if_neg (by rw [z1]; simp), if_pos h0]
 · rintro V ⟨hV, hVs, hd, z1, z2, v, h8, hv⟩
   have hc := hV.lg.cell (j := 0) hV.lc0; refine (flush_calls hd).mono ?_; rintro e V' ⟨rfl, q1, q4⟩; have hV' := hV.kept hn (Kept.mono q4 fun i hi => ⟨hi.1, hi.2.1, hi.2.2.1, hi.2.2.2.1⟩); have h8' := Kept.ob q4 h8 ⟨h8.lt, by omega, by omega, by omega⟩; have hv' := EntAt.dev hv q4 (by omega); refine ⟨_, rfl, fun h0 => ⟨hV', Nat.le_trans hVs (Kept.size q4), q1, z1, z2, h0, v, h8', hv'⟩, fun h0 => ⟨hV', ?_, ?_, v, h8'⟩⟩
   · rw [hR, if_neg (by rw [z1]; simp), if_neg (by rw [z2]; simp), if_pos h0]; exact q1
   · rw [hR, if_neg (by rw [z1]; simp), if_neg (by rw [z2]; simp), if_pos h0]
 · rintro V ⟨hV, hVs, hd, z1, z2, z3, v, h8, hv⟩
   have hc := hV.lg.cell (j := 0) hV.lc0; refine (anew3_calls hd hc hV.lg.lt n2 hh g hg0 hg1 hV.b2 hV.b5 hV.b6 (by omega) (by omega) (by omega)).mono ?_; rintro e V' ⟨rfl, q1, q4⟩; have hV' := hV.kept hn (Kept.mono q4 fun i hi => ⟨hi.1, hi.2.1, hi.2.2.1, hi.2.2.2.1⟩); have h8' := Kept.ob q4 h8 ⟨h8.lt, by omega, by omega, by omega⟩; have hv' := EntAt.dev hv q4 (by omega); refine ⟨_, rfl, fun h0 => ⟨hV', Nat.le_trans hVs (Kept.size q4), q1, z1, z2, z3, h0, v, h8', hv'⟩, fun h0 => ⟨hV', ?_, ?_, v, h8'⟩⟩
   · rw [hR, if_neg (by rw [z1]; simp), if_neg (by rw [z2]; simp), if_neg (by rw [z3]; simp), if_pos h0]; exact q1
   · rw [hR, if_neg (by rw [z1]; simp), if_neg (by rw [z2]; simp), if_neg (by rw [z3]; simp), if_pos h0]
 · rintro V ⟨hV, hVs, hd, z1, z2, z3, z4, v, h8, hv⟩
   have hRR : R = flushD (writeD (flushD x2.1).1 (g.tmod 2) (headB g half)).1 := by rw [hR, if_neg (by rw [z1]; simp), if_neg (by rw [z2]; simp), if_neg (by rw [z3]; simp), if_neg (by rw [z4]; simp)]
   refine (flush_calls hd).mono ?_; rintro e V' ⟨rfl, q1, q4⟩; rw [← hRR] at q1 ⊢; have hV' := hV.kept hn (Kept.mono q4 fun i hi => ⟨hi.1, hi.2.1, hi.2.2.1, hi.2.2.2.1⟩); have h8' := Kept.ob q4 h8 ⟨h8.lt, by omega, by omega, by omega⟩; have hv' := EntAt.dev hv q4 (by omega); exact ⟨_, rfl, fun h0 => ⟨hV', Nat.le_trans hVs (Kept.size q4), q1, h0, v, h8', hv'⟩, fun h0 => ⟨hV', q1, rfl, v, h8'⟩⟩
end
end
end Wa
end Go.Proofs.YtgcnhmjpfbbfcaaGreat
