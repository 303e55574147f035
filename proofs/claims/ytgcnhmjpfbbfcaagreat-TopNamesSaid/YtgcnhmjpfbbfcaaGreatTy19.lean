/-
  part of the proof of TopNames.
-/
import Derived.Test.YtgcnhmjpfbbfcaaGreatTy18
set_option linter.unusedVariables false
set_option linter.unusedSimpArgs false
set_option maxRecDepth 100000
set_option maxHeartbeats 8000000
namespace Go.Proofs.YtgcnhmjpfbbfcaaGreat
namespace Sk
section
open Go.RowKit Go.Maps
open It Al Kp
attribute [local go_sem] Oper.semAt_some
def putKeys (m : List (Key × Unit)) (ks : List Key) : List (Key × Unit) := ks.foldl (fun m k => aPut strK m k ()) m
def allMap (ss : List Stk) : List (Key × Unit) := ss.foldl (fun m s => putKeys m (keysS s)) []
def allKeys (ss : List Stk) : List Key := (allMap ss).map (·.1)
def yes (_ : Unit) : Value := .bool true
theorem putKeys_snoc (m : List (Key × Unit)) (ks : List Key) (k : Key) : putKeys m (ks ++ [k]) = aPut strK (putKeys m ks) k () := by
 unfold putKeys; rw [List.foldl_append]
 rfl
theorem allMap_snoc (ss : List Stk) (s : Stk) : allMap (ss ++ [s]) = putKeys (allMap ss) (keysS s) := by
 unfold allMap; rw [List.foldl_append]
 rfl
theorem putKeys_len : ∀ (ks : List Key) (m : List (Key × Unit)), (putKeys m ks).length ≤ m.length + ks.length
 | [], m => by simp [putKeys]
 | k :: r, m => by
   have h1 := putKeys_len r (aPut strK m k ()); have h2 := aPut_length_le (K := strK) m k (); show (putKeys (aPut strK m k ()) r).length ≤ _; rw [List.length_cons]; omega
theorem SpAt.keys {w : World} {base : Nat} {p : Value} {s : Stk} (h : SpAt w base p s) : (∀ k ∈ keysS s, k.length ≤ maxLen) ∧ (keysS s).length ≤ 64 ∧ p.oneCell' = true := by
 rcases h with ⟨rfl, rfl⟩ | ⟨b, mb, rfl, h2⟩
 · exact ⟨(fun k hk => by cases hk), by simp [keysS], rfl⟩
 · refine ⟨fun k hk => ?_, h2.short, rfl⟩
   obtain ⟨q, hq, rfl⟩ := List.mem_map.1 hk; exact (h2.ok q hq).key
def coll (D : Nat) : Deferred := { target := .collected D, args := #[] }
theorem leaves_coll {F : Fence} {n : Nat} {P : Program} {fn : Func} {tmps : Array Value} {R : Ending → World → Prop} (I : World → Prop) (B : Nat) (hI : ∀ W D, I W → B ≤ D → W.heap[D]? = some (.deferred (some [])) → I (W.putObj D (.deferred none)))
   (hend : ∀ W, I W → LeavesInM F n P fn tmps R [] .returning W) : ∀ (ds : List Nat) (W : World), ds.Nodup → (∀ D ∈ ds, B ≤ D ∧ W.heap[D]? = some (.deferred (some []))) → I W → LeavesInM F n P fn tmps R (ds.map coll) .returning W
 | [], W, _, _, h => hend W h
 | D :: r, W, hn, hd, h => by
   have hD := hd D (by simp); have hn' := List.nodup_cons.1 hn; refine ⟨by simp, .inl ⟨D, _, rfl, run_takeDeferred hD.2, ?_⟩⟩; refine leaves_coll I B hI hend r _ hn'.2 (fun E hE => ?_) (hI W D h hD.1 hD.2); have hE2 := hd E (List.mem_cons_of_mem _ hE); exact ⟨hE2.1, (World.putObj_heap_other (fun e => by subst e; exact hn'.1 hE)).trans hE2.2⟩
theorem greads (n : Nat) (hn : 3 ≤ n) {w : World} {base : Nat} {v : Value} {ss : List Stk} (Bs ob : Nat) (X : Nat → Prop) (h : StsAt w base v ss) (hl : ss.length ≤ 1000000) (hbs : Ob w Bs 42 #[v]) (hxl : ∀ i, X i → i < w.heap.size) (hob : ob < w.heap.size) (how : ∀ g, own w ob = some g → g < w.heap.size) :
   Ro.Reads Fence.wide n Tryz.prog 154 #[.pointer (some ⟨Bs, 0, none⟩)] (fun (k : Key) (v : Value) (_ : World) => v = encStr k) (KpO X ob) (fun xs => xs = allKeys ss) (fun pre => pre <+: allKeys ss) (fun pre k => pre ++ [k] <+: allKeys ss) w := by
 intro l J Jx W hW hJ hJx hY h0; have hM := h.same hW; have hB := hbs.same hW; have hmm := @run_makeMap Tryz.prog; have cB : W.cell? ⟨Bs, 0, none⟩ = some v := hB.k 0 rfl; obtain ⟨ps, hpl, hsl, hps⟩ := hM.at_; obtain ⟨A, c, rfl, hc1, hc2, -⟩ := hsl.at_; have hB2 := (hB.alloc (.map #[] 0)).alloc (.cells #[.map (some W.heap.size)] 267); have c2 := hB2.cell (j := 0) (v := .slice A ss.length c) rfl; have o2 := Ob.new (W.alloc (.map #[] 0)) 267 #[.map (some W.heap.size)]; have hbl2 : Below W.heap.size W ((W.alloc (.map #[] 0)).alloc (.cells #[.map (some W.heap.size)] 267)) := ((Below.refl _ W).alloc (Nat.le_refl _) _).alloc (by simp) _; have hg2 : GMap strK ((W.alloc (.map #[] 0)).alloc (.cells #[.map (some W.heap.size)] 267)) Tryz.prog 9 W.heap.size (gm yes []) := (GMap.made (K := strK) W Tryz.prog 9).kept (World.grownBy_alloc _ _ none) (by simp); have hs2 : ((W.alloc (.map #[] 0)).alloc (.cells #[.map (some W.heap.size)] 267)).heap.size = W.heap.size + 2 := by simp
 simp only [World.size_alloc] at o2; have O2 := hdd o2; have HBL2 := hdd hbl2; have HG2 := hdd hg2; have HS2 := hdd hs2; have HPS := hdd hps; have HSL := hdd hsl; clear o2 hbl2 hg2 hs2 hps hsl hpl hM cB hB hB2; refine callsIn_of_wp_marks Tryz.func154 rfl trivial ?_ rfl; simp only [Tryz.ntmps154, List.size_toArray, List.length_cons, List.length_nil, Nat.reduceAdd, Nat.reduceSub, Array.replicate_succ, Array.replicate_zero, List.push_toArray, List.append_toArray, List.nil_append, List.cons_append]; gi_wp2; clear c2 hmm; generalize (W.alloc (.map #[] 0)).alloc (.cells #[.map (some W.heap.size)] 267) = w2 at *; refine wpIn_loop (fun a V => ∃ (k : Nat) (ds : List Nat) (u5 u6 u13 u14 u15 u16 u17 u18 u19 u20 u21 : Value), k ≤ ss.length ∧ Ob V (W.heap.size + 1) 267 #[.map (some W.heap.size)] ∧ GMap strK V Tryz.prog 9 W.heap.size (gm yes (allMap (ss.take k))) ∧ (allMap (ss.take k)).length ≤ 64 * k ∧ Below W.heap.size W V ∧ W.heap.size + 2 ≤ V.heap.size ∧ ds.Nodup ∧ (∀ D ∈ ds, W.heap.size ≤ D ∧ V.heap[D]? = some (.deferred (some []))) ∧ a = ⟨#[.func (.yield l) #[] #[], .pointer (some ⟨Bs, 0, none⟩), undef, .pointer (some ⟨W.heap.size + 1, 0, none⟩), undef, u5, u6, undef, undef, .map (some W.heap.size), .slice A ss.length c, vI (ss.length : Int), vI (k : Int), u13, u14, u15, u16, u17, u18, u19, u20, u21, undef, undef, undef, undef, undef, undef, undef, undef, undef, undef, undef, undef, undef], ds.map coll⟩) (fun a _ => ss.length - (intOf (a.tmps.getD 12 undef)).toNat) ?_ ?_
 · exact ⟨0, [], _, _, _, _, _, _, _, _, _, _, _, by omega, O2.out, HG2.out, by simp [allMap], HBL2.out, by rw [HS2.out]; exact Nat.le_refl _, List.nodup_nil, (fun D hD => by cases hD), rfl⟩
 · rintro a V ⟨k, ds, u5, u6, u13, u14, u15, u16, u17, u18, u19, u20, u21, hk, hO, hG, hml, hBV, hsz, hnd, hds, rfl⟩
   clear O2 HG2 HBL2 HS2
   by_cases hlt : k < ss.length
   · obtain ⟨p, hp1, hp2⟩ := HPS.out k hlt
     obtain ⟨A', c', he, _, _, h3⟩ := HSL.out.at_
     cases he
     obtain ⟨pb, po, rfl, -, hpb, hcell⟩ := h3 (by omega); have hck := (hBV.cell (p := ⟨pb, po + k, none⟩) hpb).trans ((hcell k (by omega)).trans hp1); have hd : decide ((k : Int) < (ss.length : Int)) = true := by simp; omega
     have l1 : (0 : Int) ≤ (k : Int) := by omega
     have l2 : (k : Int) < (ss.length : Int) := by omega
     obtain ⟨hkk, hkl, hpo⟩ := hp2.keys; have HSP := hdd (hp2.same hBV); have HKK := hdd hkk; have HSn := hdd (show allMap (ss.take (k + 1)) = putKeys (allMap (ss.take k)) (keysS ss[k]) by rw [List.take_succ_eq_append_getElem hlt, allMap_snoc]); have HDS := hdd hds; have HO := hdd hO; have HG := hdd hG; have HBV := hdd hBV; have HND := hdd hnd; clear hp1 hp2 h3 hcell hkk hds hO hG hBV hnd; generalize ss[k] = sk at *; generalize allMap (ss.take k) = m0 at *; gi_wp2; refine ⟨trivial, (fun _ => by omega), (callsIn_wide.2 (goods_calls p hpo V)).mono ?_⟩; rintro e V1 ⟨rfl, hV1⟩; have hal : Below V.heap.size V V1 := by rw [hV1]; exact (Below.refl _ _).alloc (Nat.le_refl _) _
     have oB : Ob V1 V.heap.size 72 #[p] := by rw [hV1]; exact Ob.new V _ _
     have hs1 : V1.heap.size = V.heap.size + 1 := by rw [hV1]; simp
     have hO1 := HO.out.same hal; have hG1 := HG.out.below hal HG.out.lt; have hB1 := HBV.out.trans (hal.mono HBV.out.size); have hD1 := hdd (show ∀ D ∈ ds, W.heap.size ≤ D ∧ V1.heap[D]? = some (.deferred (some [])) from fun D hD => ⟨(HDS.out D hD).1, (hal.block D (Array.getElem?_eq_some_iff.1 (HDS.out D hD).2).1).trans (HDS.out D hD).2⟩); have hSP1 := HSP.out.same hal; clear hV1 hal HSP HO HG HBV HDS; gi_wp2; obtain ⟨mb, hmb⟩ : ∃ mb, mb = W.heap.size := ⟨_, rfl⟩; have HMB := hdd hmb
     refine Ro.range_reads (n := n) rfl (by omega) (gf := 209) rfl trivial (enters_of Tryz.func209 (by kernel_rfl) rfl)
       (goods_any (n - 1) (by omega) V.heap.size (fun i => i = W.heap.size) hSP1 oB (fun i hi => by omega)) (Below.refl _ _) (fun h k => h.trans k) (fun W l r r' _ h => KpX.loop h) rfl
       (fun pre X => Ob X (W.heap.size + 1) 267 #[.map (some W.heap.size)] ∧ GMap strK X Tryz.prog 9 W.heap.size (gm yes (putKeys m0 pre)) ∧ Below W.heap.size W X ∧ V1.heap.size ≤ X.heap.size ∧ ∀ D ∈ ds, W.heap.size ≤ D ∧ X.heap[D]? = some (.deferred (some [])))
       (fun c pre X => False)
       (fun s A B row hs hg hr => ⟨ob_keep hs.1 hg (fun r e => (hr r e).2), hs.2.1.kept hg (fun e => by have := (hr _ e.symm).1; omega), hs.2.2.1.grown hg (by have := hs.2.2.1.size; omega) (fun k e => by have := (hr k e).1; omega), by have := hg.size; omega, fun D hD => ⟨(hs.2.2.2.2 D hD).1, (hg.block D (Array.getElem?_eq_some_iff.1 (hs.2.2.2.2 D hD).2).1 (fun e => by have := (hr D e.symm).1; have := (Array.getElem?_eq_some_iff.1 (hD1.out D hD).2).1; omega)).trans (hs.2.2.2.2 D hD).2⟩⟩)
       (fun c s A B row hs hg hr => hs.elim)
       ⟨hO1, hG1, hB1, Nat.le_refl _, hD1.out⟩ ?round ?done ?stop
     case stop => exact fun D c pre X _ _ h _ => h.elim
     case round =>
       rintro l' pre d v' X hl' ⟨i1, i2, i3, i4, i5⟩ hpre rfl
       have hdm : d ∈ keysS sk := by
         obtain ⟨r, hr⟩ := hpre; rw [← hr]; simp
       have hdl := HKK.out d hdm
       have hpl : pre.length ≤ 64 := by
         obtain ⟨r, hr⟩ := hpre; have := congrArg List.length hr; simp only [List.length_append, List.length_cons, List.length_nil] at this; omega
       have hln := putKeys_len pre m0; have HSN := hdd (putKeys_snoc m0 pre d)
       have hkey := hdd (show keyOf Tryz.prog 9 (encStr d) = some (strK.lit d) from by
         have := key_str (s := ⟨d.toArray⟩) (by show d.toArray.size ≤ maxLen; simpa using hdl); simpa using this)
       have I5 := hdd i5; clear hpre hdm hdl i5; gi_wp2; refine ⟨keeps_below _ (Below.refl _ X), KpX.refl _ _, fun X2 hg2 ho2 => ?_⟩; have j1 := ob_keep i1 hg2 (fun r e => by cases e; exact ho2); have j2 := i2.kept hg2 (fun e => by have := Option.some.inj e; omega); have j3 := i3.grown hg2 (by have := i3.size; omega) (fun k e => by have := Option.some.inj e; omega); have j4 : V1.heap.size ≤ X2.heap.size := by have := hg2.size; omega
       have J5 := hdd (show ∀ D ∈ ds, W.heap.size ≤ D ∧ X2.heap[D]? = some (.deferred (some [])) from fun D hD => ⟨(I5.out D hD).1, (hg2.block D (Array.getElem?_eq_some_iff.1 (I5.out D hD).2).1 (fun e => by have := Option.some.inj e; have := (Array.getElem?_eq_some_iff.1 (hD1.out D hD).2).1; omega)).trans (I5.out D hD).2⟩); have cm := j1.cell (j := 0) (v := .map (some W.heap.size)) rfl; have hml2 : (gm yes (putKeys m0 pre)).length < maxLen := by rw [gm_length]; unfold maxLen; omega
       clear i1 i2 i3 hg2 ho2
       gi_wp2_with (gi_at_mapUpdate; refine wpListIn_put_g rfl (.tmp 19) (.tmp 20) (.const (.bool true)) _ rfl 9 _ keyedS Tryz.underlying267 rfl j2 hml2 _ _ _ rfl rfl hkey.out ?_; intro X3 hgm3 hg3)
       have hgm3' : GMap strK X3 Tryz.prog 9 W.heap.size (gm yes (putKeys m0 (pre ++ [d]))) := by
         rw [HSN.out, ← gm_put]; exact hgm3
       have hz3 := hg3.size; refine ⟨?_, KpX.of_grown hg3 (fun g e => (Option.some.inj e).symm), j1.kept hg3 (fun e => by have := Option.some.inj e; omega), hgm3', j3.grown hg3 (by have := j3.size; omega) (fun k e => by have := Option.some.inj e; omega), by omega, fun D hD => ⟨(J5.out D hD).1, ?_⟩⟩
       · refine ⟨hz3, fun i _ hi ho _ => (hg3.block i (Array.getElem?_eq_some_iff.1 ho).1 (fun e => by have := Option.some.inj e; omega)).trans ho⟩
       · refine (hg3.block D (Array.getElem?_eq_some_iff.1 (J5.out D hD).2).1 (fun e => ?_)).trans (J5.out D hD).2
         have e2 := Option.some.inj e; have hD2 := (J5.out D hD).2; obtain ⟨es, clock, hb, -⟩ := j2; rw [e2, hb] at hD2
         cases hD2
     case done =>
       rintro D xs X hD rfl ⟨i1, i2, i3, i4, i5⟩ hK; have hln := putKeys_len (keysS sk) m0; have hND2 : (D :: ds).Nodup := List.nodup_cons.2 ⟨fun hm => by have := (Array.getElem?_eq_some_iff.1 (hD1.out D hm).2).1; omega, HND.out⟩
       have hDS2 : ∀ E ∈ D :: ds, W.heap.size ≤ E ∧ X.heap[E]? = some (.deferred (some [])) := fun E hE => by
         rcases List.mem_cons.1 hE with rfl | hE
         · exact ⟨by omega, hK⟩
         · exact i5 E hE
       rw [← HSn.out] at i2 hln
       have hfin := hdd (show k + 1 ≤ ss.length ∧ Ob X (W.heap.size + 1) 267 #[.map (some W.heap.size)] ∧ GMap strK X Tryz.prog 9 W.heap.size (gm yes (allMap (ss.take (k + 1)))) ∧ (allMap (ss.take (k + 1))).length ≤ 64 * (k + 1) ∧ Below W.heap.size W X ∧ W.heap.size + 2 ≤ X.heap.size ∧ (D :: ds).Nodup ∧ (∀ E ∈ D :: ds, W.heap.size ≤ E ∧ X.heap[E]? = some (.deferred (some []))) from
         ⟨by omega, i1, i2, by omega, i3, by omega, hND2, hDS2⟩)
       clear i1 i2 i3 i5 hK hND2 hDS2 hln; gi_wp2; obtain ⟨f1, f2, f3, f4, f5, f6, f7, f8⟩ := hfin.out; refine ⟨⟨k + 1, D :: ds, p, u6, .bool true, .pointer (some ⟨pb, po + k, none⟩), p, p, .func (.func 209) #[] #[.pointer (some ⟨V.heap.size, 0, none⟩)], u18, u19, u20, vI ((k : Int) + 1), f1, f2, f3, f4, f5, f6, f7, f8, ?_⟩, by simp [intOf]; omega⟩
       rfl
   · obtain rfl : k = ss.length := by omega
     rw [List.take_length] at hG hml; have hd : decide (ss.length < ss.length) = false := by simp
     have hd' : decide ((ss.length : Int) < (ss.length : Int)) = false := by simp
     have cO := hO.cell (j := 0) (v := .map (some W.heap.size)) rfl; have cK := hdd (KsU.keys_calls (some W.heap.size) V); have cS := KsU.sorted_calls W.heap.size (gm yes (allMap ss)) V hG keyedS (by rw [gm_length]; omega); rw [gm_keys] at cS; change CallsIn Fence.wide 5 Tryz.prog _ _ _ (fun e w' => ∃ v : Value, e = .returned v ∧ w'.ownsRow _ 9 1 v (allKeys ss).length ((allKeys ss).map encStr) ∧ _) at cS; have hkl : (allKeys ss).length ≤ 64 * ss.length := by unfold allKeys; rw [List.length_map]; exact hml
     obtain ⟨ks, hks⟩ : ∃ ks, ks = allKeys ss := ⟨_, rfl⟩; simp only [← hks] at hY; rw [← hks] at cS hkl; have HKS := hdd hks; clear hks; have CS := hdd cS; have HDS := hdd hds; have HND := hdd hnd; have HBV := hdd hBV; have hJV : J [] V := hJ _ _ _ none h0 (only_of_below hBV none) (fun r e => by cases e); clear cS hds hnd hBV hO hG HSL HPS hk hlt h hbs
     gi_wp2_with (first
       | (refine ⟨trivial, (fun _ => by omega), ?_⟩; gi_at_call 157; refine (callsIn_wide.2 (callsIn_wide.1 cK.out)).mono ?_; rintro e W' ⟨rfl, rfl⟩)
       | (refine ⟨trivial, (fun _ => by omega), ?_⟩; gi_at_call 156; refine (callsIn_wide.2 (callsIn_wide.1 CS.out)).mono ?_; rintro e W1 ⟨kv, rfl, hkv, hb1⟩; obtain ⟨Ak, ck, rfl, -⟩ := (Sl.of_own hkv).at_))
     have hal := (Below.refl V.heap.size V).alloc (Nat.le_refl _) (.cells #[.map (some W.heap.size)] 267); have hb01 : Below V.heap.size V W1 := hal.trans (hb1.mono hal.size); have hs01 := hb01.size; have hJ1 : J [] W1 := hJ _ _ _ none hJV (only_of_below hb01 none) (fun r e => by cases e); have hK1 : Sl W1 V.heap.size W1.heap.size 1 (.slice Ak ks.length ck) ks.length (ks.map encStr) := (Sl.of_own hkv).wide (lo' := V.heap.size) (by simp) (Nat.le_refl _); have hD1 : ∀ D ∈ ds, W.heap.size ≤ D ∧ W1.heap[D]? = some (.deferred (some [])) := fun D hD => ⟨(HDS.out D hD).1, (hb01.block D (Array.getElem?_eq_some_iff.1 (HDS.out D hD).2).1).trans (HDS.out D hD).2⟩
     have HXL := hdd (fun i (hi : X i) => Nat.lt_of_lt_of_le (hxl i hi) hW.size)
     have hOW1 : ∀ g, own W1 ob = some g → g < W.heap.size ∨ W1.heap.size ≤ g := fun g hg => .inl (by
       have h1 := own_same ((HBV.out.trans (hb01.mono HBV.out.size)).block ob (by have := hW.size; omega)); have h2 := own_same (hW.block ob hob); rw [h1, h2] at hg; have := how g hg; have := hW.size; omega)
     have HDL := hdd (fun D (hD : D ∈ ds) => (Array.getElem?_eq_some_iff.1 (hD1 D hD).2).1); have HHJ := hdd hJ; have HHJx := hdd hJx; have hVW := HBV.out.size; clear hkv hal hb1 cK CS cO hxl hJ hJx hJV h0 HDS hb01
     gi_loopw [8, 26] (fun _ i wr => ∃ k : Nat, k ≤ ks.length ∧ i = vI k ∧ J (ks.take k) wr ∧ Sl wr V.heap.size W1.heap.size 1 (.slice Ak ks.length ck) ks.length (ks.map encStr) ∧ W1.heap.size ≤ wr.heap.size ∧ (∀ D ∈ ds, W.heap.size ≤ D ∧ wr.heap[D]? = some (.deferred (some []))) ∧ (∀ g, own wr ob = some g → g < W.heap.size ∨ W1.heap.size ≤ g)) (fun _ i _ => ks.length - (intOf i).toNat)
     case atStart => exact ⟨0, by omega, rfl, hJ1, hK1, Nat.le_refl _, hD1, hOW1⟩
     case round =>
       obtain ⟨k, hk, rfl, hJr, hKr, hsr, hDr, hOr⟩ := hrel; clear hJ1 hK1 hD1 hOW1; have HOR := hdd hOr; clear hOr; have HDR := hdd hDr; clear hDr
       by_cases hlt : k < ks.length
       · obtain ⟨A', c', he, _, _, h3⟩ := hKr.at_
         cases he
         obtain ⟨kb, ko, hA, hk1, hk2, hck0⟩ := h3 (by omega); have hck := (hck0 k (by omega)).trans (show (ks.map encStr)[k]? = some (encStr ks[k]) by rw [List.getElem?_map, List.getElem?_eq_getElem hlt]; rfl); have hd : decide (k < ks.length) = true := by simpa using hlt
         have hlen3 : ks.take k ++ [ks[k]] <+: ks := by
           rw [← List.take_succ_eq_append_getElem hlt]; exact List.take_prefix _ _
         have HTk := hdd (show ks.take (k + 1) = ks.take k ++ [ks[k]] from List.take_succ_eq_append_getElem hlt); have HKr := hdd hKr; have HY := hdd (hY (ks.take k) ks[k] (encStr ks[k]) wr hJr hlen3 rfl); clear hKr hJr hlen3 hY hck0 h3; generalize ks[k] = kv at *; subst hA; gi_wp2; obtain ⟨fn, tmps, assign, body, hy, hR⟩ := HY.out; rw [show Sem.run _ _ _ = _ from hy]; gi_wp2; refine ⟨(fun _ => by omega), hR.mono ?_⟩; rintro e W4 (⟨rfl, hJ4, hk4⟩ | ⟨rfl, hJx4, hkf⟩)
         · rw [← HTk.out] at hJ4
           have hD4 := hdd (show ∀ D ∈ ds, W.heap.size ≤ D ∧ W4.heap[D]? = some (.deferred (some [])) from fun D hD => ⟨(HDR.out D hD).1, hk4.same D _ (HDR.out D hD).2 (fun hx => by have := HXL.out D hx; have := (HDR.out D hD).1; omega) (fun e => by have := HOR.out D e; have := (HDR.out D hD).1; have := HDL.out D hD; omega) (fun r e => by cases e)⟩); gi_wp2
           go_roundw
           case rel => exact ⟨k + 1, by omega, by go_num, hJ4, hk4.sl HKr.out (fun i h1 h2 => ⟨fun hx => by have := HXL.out i hx; omega, fun e => by have := HOR.out i e; omega⟩), by have := hk4.size; omega, hD4.out, fun g hg => by
             rcases hk4.next g hg with h5 | h5
             · exact HOR.out g h5
             · exact .inr (by omega)⟩
           case measure => simp [intOf]; omega
         · rw [← HTk.out] at hJx4
           have hD4 : ∀ D ∈ ds, W.heap.size ≤ D ∧ W4.heap[D]? = some (.deferred (some [])) := fun D hD => ⟨(HDR.out D hD).1, hkf.same D _ (HDR.out D hD).1 (HDR.out D hD).2 rfl⟩
           have hpre : ks.take (k + 1) <+: allKeys ss := by rw [← HKS.out]; exact List.take_prefix _ _
           gi_wp2; refine leaves_coll (Jx (ks.take (k + 1))) W.heap.size (fun A D hA hD hE => HHJx.out.putObj _ hA hD hE rfl) (fun A hA => ⟨_, results_none rfl _ _ _, ⟨_, rfl⟩, .inr ⟨_, hpre, hA⟩⟩) ds _ HND.out hD4 hJx4
       · obtain rfl : k = ks.length := by omega
         have hd : decide (ks.length < ks.length) = false := by simp
         rw [List.take_length] at hJr; gi_wp2; refine leaves_coll (J ks) W.heap.size (fun A D hA hD hE => HHJ.out.putObj _ hA hD hE rfl) (fun A hA => ⟨_, results_none rfl _ _ _, ⟨_, rfl⟩, .inl ⟨_, HKS.out, hA⟩⟩) ds _ HND.out HDR.out hJr
end
end Sk
end Go.Proofs.YtgcnhmjpfbbfcaaGreat
