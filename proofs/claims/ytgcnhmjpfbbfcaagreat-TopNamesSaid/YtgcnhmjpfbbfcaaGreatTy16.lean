/-
  part of the proof of TopNames.
-/
import Derived.Test.YtgcnhmjpfbbfcaaGreatTy15
set_option linter.unusedVariables false
set_option linter.unusedSimpArgs false
set_option maxRecDepth 100000
set_option maxHeartbeats 8000000
namespace Go.Proofs.YtgcnhmjpfbbfcaaGreat
namespace Ce
section
open Go.RowKit
theorem parts_nil {w : World} {B : Nat} : CatB.Parts w B [] := ⟨(fun _ hp => nomatch hp), (fun _ hp => nomatch hp)⟩
theorem parts_cons {w : World} {B n c lo : Nat} {A : Option Addr} {x : List UInt8} {r : List CatB.Part} (h : BytesAt w lo B (.slice A n c) x) (hr : CatB.Parts w B r) : CatB.Parts w B ((A, n, c, bytesV x) :: r) := by
 have hn : n = x.length := by obtain ⟨A', c', e, _⟩ := h.at_; cases e; rfl
 subst hn; refine ⟨fun p hp => ?_, fun p hp => ?_⟩
 · rcases List.mem_cons.1 hp with rfl | hp
   · exact h.wide (Nat.zero_le _) (Nat.le_refl _)
   · exact hr.sl p hp
 · rcases List.mem_cons.1 hp with rfl | hp
   · exact bytesV_one x
   · exact hr.one p hp
theorem Mk.alloc {w : World} {bm : Nat} {Fr : Nat → Prop} {s : List UInt8 × Bool} (h : Mk w bm Fr s) (o : Obj) : Mk (w.alloc o) bm Fr s :=
 h.later ((Below.refl _ w).alloc (Nat.le_refl _) o) fun i hi => ⟨.inl hi, by have := h.2.2.1 i hi; simp; omega⟩
theorem Mk.same {w w' : World} {bm : Nat} {Fr : Nat → Prop} {s : List UInt8 × Bool} (h : Mk w bm Fr s) (hb : Below w.heap.size w w') : Mk w' bm Fr s :=
 h.later hb fun i hi => ⟨.inl hi, by have := h.2.2.1 i hi; have := hb.size; omega⟩
theorem mnum_calls (n : Int) (bm : Nat) (Fr : Nat → Prop) (s : List UInt8 × Bool) (w : World) (hM : Mk w bm Fr s) (h0 : -9223372036854775808 ≤ n) (h1 : n ≤ 9223372036854775807) :
   Calls Tryz.prog 86 #[.pointer (some ⟨bm, 0, none⟩), vI n] w fun e w' => e = .returned (.pointer (some ⟨bm, 0, none⟩)) ∧ Mk w' bm Fr (mPut s (numC n)) ∧ Kept Fr w w' := by
 have cN := hdd (fun W => num_calls n W h0 h1); have hl := (numC_len n).2; have hFlt := hdd hM.2.2.1; have HM := hdd hM; clear hM; generalize numC n = x at *
 go_enter Tryz.func86, Tryz.ntmps86
 go_wp2_with fail; refine (cN.out _).mono ?_; rintro e W1 ⟨⟨v, rfl, hv⟩, hB⟩; obtain ⟨A, c, rfl, -⟩ := hv.form; have hM1 := hdd (HM.out.same hB); have hpar := hdd (hv.wide (lo' := 0) (Nat.zero_le _) (Nat.le_refl _))
 have cP := hdd (put_calls x [(A, x.length, c, bytesV x)] W1.heap.size bm Fr s (W1.alloc (.cells #[.slice A x.length c] 35)) (hM1.out.alloc _) (by simp) (by simp)
   (fun j h => by
     match j, h with
     | 0, _ => unfold World.cell?; rw [heap_alloc_new]; rfl)
   (parts_cons (Sl.mono hpar.out ((Below.refl _ W1).alloc (Nat.le_refl _) _) (by simp)) parts_nil) (by simp [CatB.all]) (by simp [CatB.lens]) (by omega))
 clear hv; go_wp2_with fail; refine cP.out.mono ?_; rintro e W2 ⟨rfl, hM2, hK2⟩; go_wp2; go_ret; exact ⟨rfl, hM2, ((Kept.of_below hB hFlt.out).trans (Kept.of_below ((Below.refl _ W1).alloc (Nat.le_refl _) _) (fun i hi => Nat.lt_of_lt_of_le (hFlt.out i hi) hB.size))).trans hK2⟩
theorem conv_at {P : Program} {src dst e : TypeId} (hs : P.underlying src = some .string) (hd : P.underlying dst = some (.slice e)) (he : P.underlying e = some (.int .u8)) (s : ByteArray) (w : World) (hl : s.size ≤ 1000000) :
   ∃ c W', (convert src dst (.string s)).run P w = .ok (.slice (some ⟨w.heap.size, 0, none⟩) s.size c) W' ∧ BytesAt W' w.heap.size W'.heap.size (.slice (some ⟨w.heap.size, 0, none⟩) s.size c) s.data.toList ∧ Below w.heap.size w W' := by
 refine ⟨_, _, run_bytes_of_string w src dst e s hs hd he, ?_, ((Below.refl w.heap.size w).drew).alloc (Nat.le_refl _) _⟩; have hge := grownCap_ge w s.size 0 e; have hG := grownCap_le_maxLen w s.size 0 e (by unfold maxLen; omega); generalize grownCap w s.size 0 e = G at *; have hsz : s.data.toList.length = s.size := Array.length_toList; refine ⟨by rw [bytesV_length]; simp, _, _, by rw [hsz], by omega, hG, fun hn => ⟨w.heap.size, 0, rfl, Nat.le_refl _, by rw [World.size_alloc]; exact Nat.lt_succ_self _, fun j hj => ?_⟩⟩; have := World.cell?_alloc_mark w.drew (bytesRow s G) e ((bytesRow s G).size, (bytesRow s G).size + 1) (0 + j); rw [show w.drew.heap.size = w.heap.size from rfl] at this; rw [this, Nat.zero_add]; have hjs : j < s.data.size := by simpa using hj
 rw [bytesRow_at s G j hjs]; unfold bytesV; rw [List.getElem?_map, Array.getElem?_toList, Array.getElem?_eq_getElem hjs]
 rfl
theorem mtext_calls (t : ByteArray) (bm : Nat) (Fr : Nat → Prop) (s : List UInt8 × Bool) (w : World) (hM : Mk w bm Fr s) (ht : t.size ≤ 900000) :
   Calls Tryz.prog 130 #[.pointer (some ⟨bm, 0, none⟩), .string t] w fun e w' => e = .returned (.pointer (some ⟨bm, 0, none⟩)) ∧ Mk w' bm Fr (mPut s (numC t.size ++ t.data.toList)) ∧ Kept Fr w w' := by
 have cN := hdd (fun W => num_calls t.size W (by omega) (by omega)); have hl := (numC_len t.size).2; have hFlt := hdd hM.2.2.1; have HM := hdd hM; clear hM; have htl : t.data.toList.length = t.size := Array.length_toList; have HTL := hdd htl; clear htl; generalize hx : numC t.size = x at *; have HX := hdd hx; clear hx
 go_enter Tryz.func130, Tryz.ntmps130
 go_wp2_with fail; refine (cN.out _).mono ?_; rintro e W1 ⟨⟨v, rfl, hv⟩, hB⟩; obtain ⟨A, c, rfl, -⟩ := hv.form; have hM1 := hdd (HM.out.same hB); obtain ⟨c2, W2, hcv, hb2, hB2⟩ := conv_at (P := Tryz.prog) (src := 9) (dst := 35) Tryz.underlying9 Tryz.underlying35 Tryz.underlying5 t W1 (by omega); have hM2 := hdd (hM1.out.same hB2); have hpar := hdd ((hv.mono hB2 hB2.size).wide (lo' := 0) (Nat.zero_le _) (Nat.le_refl _)); have hpar2 := hdd (hb2.wide (lo' := 0) (Nat.zero_le _) (Nat.le_refl _))
 have cP := hdd (put_calls (x ++ t.data.toList) [(A, x.length, c, bytesV x), (some ⟨W1.heap.size, 0, none⟩, t.size, c2, bytesV t.data.toList)] W2.heap.size bm Fr s (W2.alloc (.cells #[.slice A x.length c, .slice (some ⟨W1.heap.size, 0, none⟩) t.size c2] 35)) (hM2.out.alloc _) (by simp) (by simp)
   (fun j h => by
     match j, h with
     | 0, _ => unfold World.cell?; rw [heap_alloc_new]; rfl
     | 1, _ => unfold World.cell?; rw [heap_alloc_new]; rfl)
   (parts_cons (Sl.mono hpar.out ((Below.refl _ W2).alloc (Nat.le_refl _) _) (by simp)) (parts_cons (Sl.mono hpar2.out ((Below.refl _ W2).alloc (Nat.le_refl _) _) (by simp)) parts_nil)) (by simp [CatB.all, bytesV_append]) (by simp [CatB.lens, HTL.out]) (by simp [HTL.out]; omega))
 clear hv hb2; have hKK := hdd ((Kept.of_below hB hFlt.out).trans ((Kept.of_below hB2 (fun i hi => Nat.lt_of_lt_of_le (hFlt.out i hi) hB.size)).trans (Kept.of_below ((Below.refl _ W2).alloc (Nat.le_refl _) (.cells #[.slice A x.length c, .slice (some ⟨W1.heap.size, 0, none⟩) t.size c2] 35)) (fun i hi => Nat.lt_of_lt_of_le (hFlt.out i hi) (Nat.le_trans hB.size hB2.size))))); go_wp2_with fail; refine cP.out.mono ?_; rintro e W3 ⟨rfl, hM3, hK3⟩; go_wp2; go_ret; exact ⟨rfl, hM3, hKK.out.trans hK3⟩
theorem mdone_calls (bm : Nat) (Fr : Nat → Prop) (s : List UInt8 × Bool) (w : World) (hM : Mk w bm Fr s) (hs : s.2 = false) :
   Calls Tryz.prog 88 #[.pointer (some ⟨bm, 0, none⟩)] w fun e w' => (∃ v, e = .returned (.tuple #[v, vO]) ∧ w'.ownsRow w.heap.size 5 1 v s.1.length (bytesV s.1)) ∧ Below w.heap.size w w' := by
 obtain ⟨S, long⟩ := s; dsimp only at hs; subst hs; obtain ⟨hM1, hM2, hM3, v, hO, hR, hG⟩ := hM; dsimp only at hM1 hO hR ⊢; have cC := hdd (cloneb_calls S v w ((BytesAt.of_own hR).wide (Nat.zero_le _) (Nat.le_refl _)) (by omega)); obtain ⟨A, c, rfl, hc1, hc2⟩ := (BytesAt.of_own hR).form; have g0 := hO.k 0 rfl; have g1 := hO.k 1 rfl; clear hM3 hG hR hc2
 go_enter Tryz.func88, Tryz.ntmps88
 go_wp2_with fail; refine cC.out.mono ?_; rintro e W1 ⟨⟨cv, rfl, hcv⟩, hB⟩; obtain ⟨A1, c1, rfl, -⟩ := (BytesAt.of_own hcv).form; go_wp2; go_ret2; exact ⟨⟨_, rfl, hcv⟩, hB⟩
def Tk (T : TypeId) (w : World) (bt B : Nat) (st : Tst) : Prop :=
 B ≤ w.heap.size ∧ ∃ v l lo bad, Ob w bt T #[v, .bool bad] ∧ BytesAt w lo B v l ∧ (B ≤ bt ∨ bt < lo) ∧ st = (if bad = true then none else some l)
theorem Tk.none_form {T : TypeId} {w : World} {bt B : Nat} (h : Tk T w bt B none) : ∃ v, Ob w bt T #[v, .bool true] := by
 obtain ⟨_, v, l, lo, bad, h1, _, _, h4⟩ := h
 cases bad with
 | true => exact ⟨v, h1⟩
 | false => simp at h4
theorem Tk.some_form {T : TypeId} {w : World} {bt B : Nat} {l : List UInt8} (h : Tk T w bt B (some l)) : ∃ v lo, Ob w bt T #[v, .bool false] ∧ BytesAt w lo B v l ∧ (B ≤ bt ∨ bt < lo) := by
 obtain ⟨_, v, l', lo, bad, h1, h2, h3, h4⟩ := h
 cases bad with
 | true => simp at h4
 | false =>
   simp at h4; subst h4; exact ⟨v, lo, h1, h2, h3⟩
theorem Tk.kept {T : TypeId} {w w' : World} {bt B : Nat} {st : Tst} {row : Option Nat} (h : Tk T w bt B st) (hg : w.grownBy w' row) (h1 : some bt ≠ row) (h2 : ∀ g, row = some g → B ≤ g) : Tk T w' bt B st := by
 obtain ⟨h0, v, l, lo, bad, h3, h4, h5, h6⟩ := h; exact ⟨Nat.le_trans h0 hg.size, v, l, lo, bad, h3.kept hg h1, Sl.grown h4 hg h0 (fun k e => .inr (h2 k e)), h5, h6⟩
theorem Tk.same {T : TypeId} {w w' : World} {bt B : Nat} {st : Tst} (h : Tk T w bt B st) (hb : Below w.heap.size w w') : Tk T w' bt B st := h.kept (only_of_below hb none) (by simp) (by simp)
theorem Tk.ofBad {T : TypeId} {w w' : World} {bt B : Nat} {v : Value} (ho : Ob w' bt T #[v, .bool true]) {l : List UInt8} {lo : Nat} (hb : BytesAt w lo B v l) (hB : B ≤ w.heap.size) (hne : B ≤ bt ∨ bt < lo) (hg : w.grownBy w' (some bt)) : Tk T w' bt B none :=
 ⟨Nat.le_trans hB hg.size, v, l, lo, true, ho, Sl.grown hb hg hB (fun k e => by cases e; exact hne.symm), hne, by simp⟩
theorem Tk.ofOk {T : TypeId} {w w' : World} {bt B : Nat} {v : Value} (ho : Ob w' bt T #[v, .bool false]) {l : List UInt8} {lo : Nat} (hb : BytesAt w lo B v l) (hB : B ≤ w.heap.size) (hne : B ≤ bt ∨ bt < lo) (hg : w.grownBy w' (some bt)) : Tk T w' bt B (some l) :=
 ⟨Nat.le_trans hB hg.size, v, l, lo, false, ho, Sl.grown hb hg hB (fun k e => by cases e; exact hne.symm), hne, rfl⟩
def Sure (w : World) (bt : Nat) : Prop := ∃ b o n c, w.cell? ⟨bt, 0, none⟩ = some (.slice (some ⟨b, o, none⟩) n c)
theorem BytesAt.onFrom {w : World} {lo B n k c : Nat} {b o : Nat} {l : List UInt8} (h : BytesAt w lo B (.slice (some ⟨b, o, none⟩) n c) l) (hk : k ≤ l.length) :
   BytesAt w lo B (.slice (if c = k then some ⟨b, o, none⟩ else some ⟨b, o + k, none⟩) (n - k) (c - k)) (l.drop k) := by
 have hn : n = l.length := by obtain ⟨A', c', e, _⟩ := h.at_; cases e; rfl
 subst hn; have := Sl.onFrom (k := k) h hk; unfold BytesAt; rw [List.length_drop, show bytesV (l.drop k) = (bytesV l).drop (k * 1) by simp [bytesV, List.map_drop]]; rw [Nat.mul_one] at this ⊢; exact this
theorem tmay_calls (bt : Nat) (bad : Bool) (w : World) (h : w.cell? ⟨bt, 1, none⟩ = some (.bool bad)) :
   Calls Tryz.prog 113 #[.pointer (some ⟨bt, 0, none⟩)] w fun e w' => e = .returned (.bool (!bad)) ∧ w = w' := by
 go_enter Tryz.func113, Tryz.ntmps113
 go_wp2; go_ret; exact ⟨rfl, rfl⟩
theorem fault_calls (bt : Nat) (u : Value) (w : World) (h : w.cell? ⟨bt, 1, none⟩ = some u) (hf : w.frozen? ⟨bt, 1, none⟩ = false) :
   Calls Tryz.prog 115 #[.pointer (some ⟨bt, 0, none⟩)] w fun e w' => e = .returned (.tuple #[]) ∧ w.setCell ⟨bt, 1, none⟩ (.bool true) = w' := by
 go_enter Tryz.func115, Tryz.ntmps115
 go_wp2; go_end0; exact ⟨rfl, rfl⟩
theorem take_calls (l : List UInt8) (v : Value) (w : World) (h : BytesAt w 0 w.heap.size v l) (hl : l.length ≤ 140737488351232) :
   Calls Tryz.prog 70 #[v] w fun e w' => (∃ bt, e = .returned (.pointer (some ⟨bt, 0, none⟩)) ∧ w.heap.size ≤ bt ∧ bt < w'.heap.size ∧ Tk 228 w' bt bt (some l)) ∧ Below w.heap.size w w' := by
 have cC := hdd (cloneb_calls l v w h hl); obtain ⟨A, c, rfl, -⟩ := h.form; clear hl h
 go_enter Tryz.func70, Tryz.ntmps70
 go_wp2_with fail; refine cC.out.mono ?_; rintro e W1 ⟨⟨cv, rfl, hcv⟩, hB⟩; have hb1 := BytesAt.of_own hcv; obtain ⟨A1, c1, rfl, -⟩ := hb1.form; go_wp2; go_ret; refine ⟨⟨_, rfl, hB.size, by simp, by simp, _, l, w.heap.size, false, Ob.new _ _ _, Sl.below hb1 ((Below.refl _ W1).alloc (Nat.le_refl _) _), .inl (Nat.le_refl _), rfl⟩, hB.alloc hB.size _⟩
theorem tnum_calls (least most : Int) (bt B : Nat) (st : Tst) (w : World) (h : Tk 228 w bt B st) :
   Calls Tryz.prog 71 #[.pointer (some ⟨bt, 0, none⟩), vI least, vI most] w fun e w' => e = .returned (vI (tNum least most st).1) ∧ Tk 228 w' bt B (tNum least most st).2 ∧ w.grownBy w' (some bt) ∧ ((tNum least most st).2.isSome = true → Sure w' bt) := by
 have hBw := h.1
 cases st with
 | none =>
   have HT := hdd h; obtain ⟨v, hO⟩ := h.none_form; have g1 := hO.k 1 rfl; have cM := hdd (tmay_calls bt true w g1); clear h
   go_enter Tryz.func71, Tryz.ntmps71
   go_wp2_with fail; refine cM.out.mono ?_; rintro e W ⟨rfl, rfl⟩; go_wp2; go_ret; exact ⟨rfl, HT.out, World.grownBy.refl _ _, fun h => by cases h⟩
 | some l =>
   obtain ⟨v, lo, hO, hb, hne⟩ := h.some_form; have g1 := hO.k 1 rfl; have g0 := hO.k 0 rfl; have hlt := hO.lt; have cM := hdd (tmay_calls bt false w g1); have cF := hdd (first_calls l v w (hb.wide (Nat.zero_le _) hBw)); have HNE := hdd hne; have HB := hdd hb; clear h hne; obtain ⟨A, c, rfl, hc1, hc2⟩ := hb.form; unfold maxLen at hc2
   cases hf : firstC l with
   | none =>
     have HR := hdd (show firstR l = (0, 0, 10) by unfold firstR; rw [hf]); rw [tNum_bad hf]; rw [HR.out] at cF; clear hf hb
     go_enter Tryz.func71, Tryz.ntmps71
     go_wp2_with fail; refine cM.out.mono ?_; rintro e W ⟨rfl, rfl⟩; go_wp2_with fail; refine cF.out.mono ?_; rintro e W1 ⟨rfl, hB⟩; have hO1 := hO.same hB; have g11 := hO1.k 1 rfl; have f11 := hO1.frozen 1; have cFa := hdd (fault_calls bt _ W1 g11 f11); go_wp2_with fail; refine cFa.out.mono ?_; rintro e W2 ⟨rfl, rfl⟩; go_wp2; go_ret; have hg := grownBy_set W1 bt 1 (.bool true); exact ⟨rfl, Tk.ofBad (hO1.set 1 (.bool true)) (Sl.below HB.out (hB.mono hBw)) (Nat.le_trans hBw hB.size) HNE.out hg, (only_of_below hB (some bt)).trans hg, fun h => by cases h⟩
   | some x =>
     obtain ⟨n, k⟩ := x; have hfs := firstC_some hf; have HR := hdd (show firstR l = (n, (k : Int), 0) by unfold firstR; rw [hf]); rw [HR.out] at cF
     by_cases hout : n < least ∨ most < n
     · rw [tNum_out hf hout]
       have hcs : decide (n < least) = true ∨ (decide (n < least) = false ∧ decide (n > most) = true) := by
         by_cases h1 : n < least
         · exact .inl (by simpa using h1)
         · exact .inr ⟨by simpa using h1, by simp; omega⟩
       clear hf hb hfs hout; rcases hcs with hd | ⟨hd, hd2⟩
       all_goals
         go_enter Tryz.func71, Tryz.ntmps71
         go_wp2_with fail; refine cM.out.mono ?_; rintro e W ⟨rfl, rfl⟩; go_wp2_with fail; refine cF.out.mono ?_; rintro e W1 ⟨rfl, hB⟩; have hO1 := hO.same hB; have g11 := hO1.k 1 rfl; have f11 := hO1.frozen 1; have cFa := hdd (fault_calls bt _ W1 g11 f11); go_wp2_with fail; refine cFa.out.mono ?_; rintro e W2 ⟨rfl, rfl⟩; go_wp2; go_ret; have hg := grownBy_set W1 bt 1 (.bool true); exact ⟨rfl, Tk.ofBad (hO1.set 1 (.bool true)) (Sl.below HB.out (hB.mono hBw)) (Nat.le_trans hBw hB.size) HNE.out hg, (only_of_below hB (some bt)).trans hg, fun h => by cases h⟩
     · have hd1 : decide (n < least) = false := by simp; omega
       have hd2 : decide (n > most) = false := by simp; omega
       rw [tNum_in hf hout]; obtain ⟨b, o, rfl, -⟩ := hb.cellAt (j := 0) (by omega); have hk1 : k ≤ l.length := hfs.2.2.1; have q1 : (0 : Int) ≤ (k : Int) := by omega
       have q2 : (k : Int) ≤ (l.length : Int) := by omega
       have q3 : (l.length : Int) ≤ (c : Int) := by omega
       have hslice := hdd (fun W (hW : Below w.heap.size w W) => BytesAt.onFrom (k := k) (Sl.below HB.out (hW.mono hBw)) hk1); clear hf hb hfs hout
       by_cases hck : c = k
       · subst hck
         simp only [if_true] at hslice; have hlc : l.length = c := by omega
         have e1 : l.length - c = 0 := by omega
         rw [e1, Nat.sub_self] at hslice; clear e1 hlc
         go_enter Tryz.func71, Tryz.ntmps71
         go_wp2_with fail; refine cM.out.mono ?_; rintro e W ⟨rfl, rfl⟩; go_wp2_with fail; refine cF.out.mono ?_; rintro e W1 ⟨rfl, hB⟩; have hO1 := hO.same hB; have g11 := hO1.k 1 rfl; have g10 := hO1.k 0 rfl; have f10 := hO1.frozen 0; have hs1 := hslice.out W1 hB; go_wp2; go_ret; have hg := grownBy_set W1 bt 0 (.slice (some ⟨b, o, none⟩) 0 0); exact ⟨rfl, Tk.ofOk (hO1.set 0 _) hs1 (Nat.le_trans hBw hB.size) HNE.out hg, (only_of_below hB (some bt)).trans hg, fun _ => ⟨_, _, _, _, (hO1.set 0 _).k 0 rfl⟩⟩
       · rw [if_neg hck] at hslice
         go_enter Tryz.func71, Tryz.ntmps71
         go_wp2_with fail; refine cM.out.mono ?_; rintro e W ⟨rfl, rfl⟩; go_wp2_with fail; refine cF.out.mono ?_; rintro e W1 ⟨rfl, hB⟩; have hO1 := hO.same hB; have g11 := hO1.k 1 rfl; have g10 := hO1.k 0 rfl; have f10 := hO1.frozen 0; have hs1 := hslice.out W1 hB; go_wp2; go_ret; have hg := grownBy_set W1 bt 0 (.slice (some ⟨b, o + k, none⟩) (l.length - k) (c - k)); exact ⟨rfl, Tk.ofOk (hO1.set 0 _) hs1 (Nat.le_trans hBw hB.size) HNE.out hg, (only_of_below hB (some bt)).trans hg, fun _ => ⟨_, _, _, _, (hO1.set 0 _).k 0 rfl⟩⟩
theorem ttext_calls (most : Int) (bt B : Nat) (st : Tst) (w : World) (h : Tk 228 w bt B st) :
   Calls Tryz.prog 72 #[.pointer (some ⟨bt, 0, none⟩), vI most] w fun e w' => e = .returned (.string (bs (tText most st).1)) ∧ Tk 228 w' bt B (tText most st).2 ∧ w.grownBy w' (some bt) := by
 have cN := hdd (tnum_calls 0 most bt B st w h); clear h
 cases hn : tNum 0 most st with
 | mk n st2 =>
   rw [hn] at cN
   cases st2 with
   | none =>
     rw [tText_bad (by rw [hn])]; clear hn
     go_enter Tryz.func72, Tryz.ntmps72
     go_wp2_with fail; refine cN.out.mono ?_; rintro e W ⟨rfl, hT, hg, -⟩; obtain ⟨v, hO⟩ := hT.none_form; have HT := hdd hT; clear hT; have g1 := hO.k 1 rfl; have cM := hdd (tmay_calls bt true W g1); go_wp2_with fail; refine cM.out.mono ?_; rintro e W1 ⟨rfl, rfl⟩; go_wp2; go_ret; exact ⟨rfl, HT.out, hg⟩
   | some l =>
     have h0 : 0 ≤ n := by obtain ⟨_, _, _, h3, _⟩ := tNum_some hn; exact h3
     obtain ⟨m, rfl⟩ := Int.eq_ofNat_of_zero_le h0; clear h0
     by_cases hlong : (l.length : Int) < (m : Int)
     · rw [tText_long hn hlong]
       have hd : decide (l.length < m) = true := by simpa using hlong
       clear hn hlong
       go_enter Tryz.func72, Tryz.ntmps72
       go_wp2_with fail; refine cN.out.mono ?_; rintro e W ⟨rfl, hT, hg, -⟩; have hBw := hT.1; obtain ⟨v, lo, hO, hb, hne⟩ := hT.some_form; have HNE := hdd hne; have HB := hdd hb; obtain ⟨A, c, rfl, -⟩ := hb.form; clear hT hne hb; have g1 := hO.k 1 rfl; have g0 := hO.k 0 rfl; have f1 := hO.frozen 1; have cM := hdd (tmay_calls bt false W g1); have cFa := hdd (fault_calls bt _ W g1 f1); go_wp2_with fail; refine cM.out.mono ?_; rintro e W1 ⟨rfl, rfl⟩; go_wp2_with fail; refine cFa.out.mono ?_; rintro e W2 ⟨rfl, rfl⟩; go_wp2; go_ret; have hg2 := grownBy_set W bt 1 (.bool true); exact ⟨rfl, Tk.ofBad (hO.set 1 (.bool true)) HB.out hBw HNE.out hg2, hg.trans hg2⟩
     · rw [tText_ok hn hlong]
       have hd : decide (l.length < m) = false := by simpa using hlong
       have hml : m ≤ l.length := by omega
       have q1 : (0 : Int) ≤ (m : Int) := by omega
       have q2 : (m : Int) ≤ (l.length : Int) := by omega
       clear hn hlong
       go_enter Tryz.func72, Tryz.ntmps72
       go_wp2_with fail; refine cN.out.mono ?_; rintro e W ⟨rfl, hT, hg, hS⟩; obtain ⟨b, o, n', c, hS⟩ := hS rfl; have hBw := hT.1; obtain ⟨v, lo, hO, hb, hne⟩ := hT.some_form; have g0 := hO.k 0 rfl; obtain rfl : v = .slice (some ⟨b, o, none⟩) n' c := by rw [hS] at g0; simpa using g0.symm
       have HNE := hdd hne; have HB := hdd hb; obtain ⟨A, c', e, hc1, hc2⟩ := hb.form; have e2 : c = c' := by cases e; rfl
       have e3 : n' = l.length := by cases e; rfl
       clear e; subst e2 e3; clear hT hne hb hS; have q3 : (l.length : Int) ≤ (c : Int) := by omega
       have q4 : (m : Int) ≤ (c : Int) := by omega
       have g1 := hO.k 1 rfl; have f0 := hO.frozen 0; have cM := hdd (tmay_calls bt false W g1); have hcv := run_string_at (P := Tryz.prog) (dst := 9) Tryz.underlying35 Tryz.underlying5 Tryz.underlying9 (BytesAt.upTo HB.out hml); have hs1 := BytesAt.onFrom HB.out hml; have hon := hO.set 0 (.slice (if c = m then some ⟨b, o, none⟩ else some ⟨b, o + m, none⟩) (l.length - m) (c - m))
       by_cases hck : c = m
       · subst hck
         have e1 : l.length = c := by omega
         simp only [if_true] at hs1 hon; have e2 : l.length - c = 0 := by omega
         rw [e2, Nat.sub_self] at hs1 hon; clear e1 e2; have HS1 := hdd hs1; clear hs1; go_wp2_with fail; refine cM.out.mono ?_; rintro e W1 ⟨rfl, rfl⟩; go_wp2; go_ret; have hg2 := grownBy_set W bt 0 (.slice (some ⟨b, o, none⟩) 0 0); exact ⟨rfl, Tk.ofOk hon HS1.out hBw HNE.out hg2, hg.trans hg2⟩
       · rw [if_neg hck] at hs1 hon
         have HS1 := hdd hs1; clear hs1; go_wp2_with fail; refine cM.out.mono ?_; rintro e W1 ⟨rfl, rfl⟩; go_wp2; go_ret; have hg2 := grownBy_set W bt 0 (.slice (some ⟨b, o + m, none⟩) (l.length - m) (c - m)); exact ⟨rfl, Tk.ofOk hon HS1.out hBw HNE.out hg2, hg.trans hg2⟩
def doneOf : Tst → Int | some [] => 0 | _ => 10
theorem tdone_calls (bt B : Nat) (st : Tst) (w : World) (h : Tk 228 w bt B st) :
   Calls Tryz.prog 73 #[.pointer (some ⟨bt, 0, none⟩)] w fun e w' => e = .returned (vI (doneOf st)) ∧ w = w' := by
 cases st with
 | none =>
   obtain ⟨v, hO⟩ := h.none_form; have g1 := hO.k 1 rfl; clear h
   go_enter Tryz.func73, Tryz.ntmps73
   go_wp2; go_ret; exact ⟨rfl, rfl⟩
 | some l =>
   obtain ⟨v, lo, hO, hb, hne⟩ := h.some_form; obtain ⟨A, c, rfl, -⟩ := hb.form; have g1 := hO.k 1 rfl; have g0 := hO.k 0 rfl; clear h hne hb
   cases l with
   | nil =>
     simp only [List.length_nil] at g0 g1
     go_enter Tryz.func73, Tryz.ntmps73
     go_wp2; go_ret; exact ⟨rfl, rfl⟩
   | cons x r =>
     have hd : decide (0 < (x :: r).length) = true := by simp
     generalize hk : (x :: r).length = k at *
     go_enter Tryz.func73, Tryz.ntmps73
     go_wp2; go_ret; exact ⟨rfl, rfl⟩
end
end Ce
namespace Tp
section
open Go.RowKit Go.Maps
open Ce
theorem mput_s {l c : List UInt8} (h : l.length + c.length ≤ 1000) : Ce.mPut (l, false) c = (l ++ c, false) := by
 unfold Ce.mPut; rw [if_neg (by simp), if_neg (by dsimp only; omega)]
theorem numC_s {n : Int} (h0 : 0 ≤ n) (h1 : n < 128) : numC n = [UInt8.ofNat n.toNat] := numC_small ⟨h0, h1⟩
theorem mnum_s {n : Int} {bm : Nat} {Fr : Nat → Prop} {l : List UInt8} {w : World} (hM : Mk w bm Fr (l, false)) (hl : l.length ≤ 900) (h0 : 0 ≤ n) (h1 : n < 128) :
   Calls Tryz.prog 86 #[ptr bm, vI n] w fun e w' => e = .returned (ptr bm) ∧ Mk w' bm Fr (l ++ numC n, false) ∧ Kept Fr w w' := by
 have h := mnum_calls n bm Fr (l, false) w hM (by omega) (by omega); rw [mput_s (by rw [numC_s h0 h1]; simp; omega)] at h; exact h
theorem mtext_s {t : ByteArray} {bm : Nat} {Fr : Nat → Prop} {l : List UInt8} {w : World} (hM : Mk w bm Fr (l, false)) (hl : l.length ≤ 800) (h1 : t.size < 128) :
   Calls Tryz.prog 130 #[ptr bm, .string t] w fun e w' => e = .returned (ptr bm) ∧ Mk w' bm Fr (l ++ (numC t.size ++ t.data.toList), false) ∧ Kept Fr w w' := by
 have h := mtext_calls t bm Fr (l, false) w hM (by omega); have hs : t.data.toList.length = t.size := by simp
 rw [mput_s (by rw [numC_s (by omega) (by omega)]; simp; omega)] at h; exact h
theorem firstC_s (c : UInt8) (t : List UInt8) (h : c.toNat < 128) : firstC (c :: t) = some ((c.toNat : Int), 1) := by rw [firstC_cons, if_pos h]
theorem tNum_s {least most : Int} (c : UInt8) (t : List UInt8) (h : c.toNat < 128) (h1 : least ≤ c.toNat) (h2 : (c.toNat : Int) ≤ most) : tNum least most (some (c :: t)) = ((c.toNat : Int), some t) := by
 rw [tNum_in (firstC_s c t h) (by omega)]
 rfl
theorem tnum_s {least most n : Int} {c : UInt8} {t : List UInt8} {bt B : Nat} {w : World} (h : Tk 228 w bt B (some (c :: t))) (hn : (c.toNat : Int) = n) (hc : c.toNat < 128) (h1 : least ≤ n) (h2 : n ≤ most) :
   Calls Tryz.prog 71 #[ptr bt, vI least, vI most] w fun e w' => e = .returned (vI n) ∧ Tk 228 w' bt B (some t) ∧ w.grownBy w' (some bt) := by
 have hh := tnum_calls least most bt B _ w h; subst hn; rw [tNum_s c t hc h1 h2] at hh; exact hh.mono fun _ _ q => ⟨q.1, q.2.1, q.2.2.1⟩
theorem ttext_s {most : Int} {c : UInt8} {x t : List UInt8} {bt B : Nat} {w : World} (h : Tk 228 w bt B (some (c :: (x ++ t)))) (hn : c.toNat = x.length) (hc : c.toNat < 128) (h2 : (x.length : Int) ≤ most) :
   Calls Tryz.prog 72 #[ptr bt, vI most] w fun e w' => e = .returned (.string (bs x)) ∧ Tk 228 w' bt B (some t) ∧ w.grownBy w' (some bt) := by
 have hh := ttext_calls most bt B _ w h
 have e : tText most (some (c :: (x ++ t))) = (x, some t) := by
   have := tText_put (most := most) x t h2 (by omega)
   rwa [numC_s (by omega) (by omega), show UInt8.ofNat (x.length : Int).toNat = c by rw [Int.toNat_natCast, ← hn]; simp] at this
 rw [e] at hh; exact hh
theorem tdone_s {bt B : Nat} {w : World} (h : Tk 228 w bt B (some [])) : Calls Tryz.prog 73 #[ptr bt] w fun e w' => e = .returned vO ∧ w = w' := tdone_calls bt B _ w h
theorem ofN {n : Int} (h0 : 0 ≤ n) (h1 : n < 128) : (((UInt8.ofNat n.toNat).toNat : Nat) : Int) = n := by
 rw [toNat_ofNat (by omega)]; omega
theorem ofN_lt {n : Int} (h0 : 0 ≤ n) (h1 : n < 128) : (UInt8.ofNat n.toNat).toNat < 128 := by rw [toNat_ofNat (by omega)]; omega
theorem sl_sets {w : World} {lo hi size n b : Nat} {v : Value} {xs : List Value} (h : Sl w lo hi size v n xs) (hb : b < lo ∨ hi ≤ b) (j : Nat) (u : Value) : Sl (w.setCell ⟨b, j, none⟩ u) lo hi size v n xs :=
 h.keep fun k _ h1 h2 => World.cell?_of_block (w := w) (Below.heap_setCell w ⟨b, j, none⟩ u k (by intro e; dsimp only at e; omega))
end
end Tp
end Go.Proofs.YtgcnhmjpfbbfcaaGreat
