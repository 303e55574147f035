/-
  part of the proof of TopNames.
-/
import Derived.Test.YtgcnhmjpfbbfcaaGreatTy0
import Derived.Test.YtgcnhmjpfbbfcaaGreatTy4
import Derived.Laws.IdiomStrings
import Derived.Lib.SliceRun
import Derived.Laws.Bits64b
set_option linter.unusedVariables false
set_option linter.unusedSimpArgs false
set_option maxRecDepth 100000
set_option maxHeartbeats 8000000
namespace Go.Proofs.YtgcnhmjpfbbfcaaGreat
namespace CatB
section
open Go.RowKit Go.Shelf
abbrev Part := Option Addr × Nat × Nat × List Value
def pv (p : Part) : Value := .slice p.1 p.2.1 p.2.2.1
def lens : List Part → Nat
 | [] => 0
 | p :: r => p.2.1 + lens r
def all (l : List Part) : List Value := (l.map (·.2.2.2)).flatten
theorem lens_le (l : List Part) (k : Nat) : lens (l.take k) ≤ lens l := by
 induction l generalizing k with
 | nil => simp [lens]
 | cons p r ih =>
   cases k with
   | zero => simp [lens]
   | succ k => simp only [List.take_succ_cons, lens]; have := ih k; omega
theorem lens_succ (l : List Part) (k : Nat) (h : k < l.length) : lens (l.take (k + 1)) = lens (l.take k) + l[k].2.1 := by
 induction l generalizing k with
 | nil => simp at h
 | cons p r ih =>
   cases k with
   | zero => simp [lens]
   | succ k => simp only [List.take_succ_cons, lens, List.getElem_cons_succ]; rw [ih k (by simpa using h)]; omega
theorem all_succ (l : List Part) (k : Nat) (h : k < l.length) : all (l.take (k + 1)) = all (l.take k) ++ l[k].2.2.2 := by
 unfold all
 induction l generalizing k with
 | nil => simp at h
 | cons p r ih =>
   cases k with
   | zero => simp
   | succ k =>
     simp only [List.take_succ_cons, List.map_cons, List.flatten_cons, List.getElem_cons_succ, List.append_assoc]; rw [ih k (by simpa using h)]
theorem grow_calls (n : Nat) (w : World) (hn : n ≤ 1000000) :
   Calls Tryz.prog 265 #[.slice none 0 0, .int .i64 n] w fun e w' => (∃ v, e = .returned v ∧ w'.ownsRow w.heap.size 5 1 v 0 []) ∧ Below w.heap.size w w' := by
 cases n with
 | zero =>
   refine (Any8.slices_Grow_room Tryz.grow265 none 0 0 0 w (by omega) (by omega) (by omega) (by omega)).mono ?_; rintro e w' ⟨rfl, rfl⟩; exact ⟨⟨_, rfl, World.ownsRow_nil _ _ _ _⟩, Below.refl _ _⟩
 | succ n =>
   obtain ⟨i0, hi0, hz0, hz1, hz2⟩ := inf3 Ce.byte_info; refine (Any8.slices_Grow_grow Tryz.grow265 i0 _ hi0 hz0 (by omega) none 0 0 (n + 1) [] w (by omega) (by omega) (by rw [hz2]; omega) (by omega) (by simp) (by simp) (by simp)).mono ?_; rintro e w' ⟨rfl, rfl⟩; have hG := grownCap_le_maxLen w (0 + (n + 1)) 0 (Tryz.grow265_ren.t 25) (by unfold maxLen; omega); have hge := grownCap_ge w (0 + (n + 1)) 0 (Tryz.grow265_ren.t 25); refine ⟨⟨_, rfl, ?_⟩, ((Below.refl w.heap.size w).drew).alloc (Nat.le_refl _) _⟩; refine World.ownsRow_made w.drew _ _ (Nat.le_refl _) hG ?_; generalize grownCap w (0 + (n + 1)) 0 (Tryz.grow265_ren.t 25) = G at *; simp only [Array.size_append, size_zeroCells, Value.cells]; simp; omega
structure Parts (w : World) (B : Nat) (l : List Part) : Prop where
 sl : ∀ p ∈ l, Sl w 0 B 1 (pv p) p.2.1 p.2.2.2
 one : ∀ p ∈ l, ∀ y ∈ p.2.2.2, y.oneCell' = true
theorem concat_calls (l : List Part) (bk c : Nat) (w : World) (hlc : l.length ≤ c) (hc : c ≤ maxLen) (hbk : bk < w.heap.size) (hcell : ∀ j (h : j < l.length), w.cell? ⟨bk, j, none⟩ = some (pv l[j])) (hp : Parts w w.heap.size l) (hlen : lens l ≤ 1000000) :
   Calls Tryz.prog 200 #[.slice (some ⟨bk, 0, none⟩) l.length c] w fun e w' => (∃ v, e = .returned v ∧ w'.ownsRow w.heap.size 5 1 v (lens l) (all l)) ∧ Below w.heap.size w w' := by
 have HC := hdd hcell; clear hcell; unfold maxLen at hc; have cG := hdd (fun W => grow_calls (lens l) W hlen); have hle := hdd (lens_le l); have hls := hdd (lens_succ l); have hla := hdd (show lens (l.take l.length) = lens l by rw [List.take_length]); have hal := hdd (show all (l.take l.length) = all l by rw [List.take_length]); have has := hdd (all_succ l); generalize lens l = T at *
 go_enter Tryz.func200, Tryz.ntmps200
 go_wp2_with fail
 go_loop [3, 5, 11] (fun s _ i => ∃ k : Nat, k ≤ l.length ∧ i = .int .i64 k ∧ s = .int .i64 (lens (l.take k))) (fun _ _ i => l.length - (intOf i).toNat)
 case atStart => exact ⟨0, by omega, rfl, rfl⟩
 case round =>
   obtain ⟨k, hk, rfl, rfl⟩ := hrel
   by_cases hlt : k < l.length
   · have hck := HC.out k hlt
     have hS0 := hls.out k hlt; have h1 := hle.out k; have h2 := hle.out (k + 1); rw [hS0] at h2; generalize l[k] = p at hck hS0 h2; obtain ⟨A, n, c', xs⟩ := p; simp only [pv] at hck; dsimp only at h2 hS0; have hS := hdd hS0; clear hS0; generalize lens (l.take k) = S at *; have hneg : decide (((S : Int) + (n : Int)) < 0) = false := by simp; omega
     have hw : wrap64 ((S : Int) + (n : Int)) = (S : Int) + (n : Int) := by unfold wrap64; omega
     go_wp2
     go_round
     case rel => exact ⟨k + 1, by omega, by go_num, by rw [hS.out]; go_num⟩
     case measure => simp [intOf]; omega
   · obtain rfl : k = l.length := by omega
     rw [hla.out]; go_wp2_with fail; refine (cG.out _).mono ?_; rintro e w1 ⟨⟨v, rfl, hv⟩, h1⟩; have hs1 := h1.size; go_wp2_with fail
     go_loopw [6, 8, 27] (fun u _ i wr => ∃ k : Nat, k ≤ l.length ∧ i = .int .i64 k ∧ wr.ownsRow w.heap.size 5 1 u (lens (l.take k)) (all (l.take k)) ∧ Below w.heap.size w wr) (fun _ _ i _ => l.length - (intOf i).toNat)
     case atStart => exact ⟨0, by omega, rfl, hv, h1⟩
     case round =>
       obtain ⟨k, hk, rfl, hown, hB⟩ := hrel
       by_cases hlt : k < l.length
       · have hck0 := HC.out k hlt
         have hck := (hB.cell (p := ⟨bk, k, none⟩) hbk).trans hck0; have hsl := (hp.sl _ (List.getElem_mem hlt)).below hB; have hone := hdd (hp.one _ (List.getElem_mem hlt)); have hS0 := hls.out k hlt; have hA0 := has.out k hlt; have h2 := hle.out (k + 1); rw [hS0] at h2; clear hck0; generalize l[k] = p at hck hS0 hA0 h2 hsl hone; obtain ⟨A, n, c', xs⟩ := p; simp only [pv] at hck hsl; dsimp only at h2 hS0 hA0 hsl hone; have hS := hdd hS0; have hA := hdd hA0; clear hS0 hA0; generalize lens (l.take k) = S at *; generalize all (l.take k) = X at *; obtain ⟨i0, hi0, hz0, hz1, hz2⟩ := inf3 Ce.byte_info
         go_wp2_with (at_builtin
                      refine wpList_append_sl _ rfl (.tmp 31) (.tmp 32) _ rfl w.heap.size 5 i0 _ 1 1 Tryz.underlying35 hi0 hz0 hz1 hz2 rfl (by omega) u6 S X rfl hown 0 w.heap.size _ n xs rfl hsl hone.out (by unfold maxLen; omega) (by omega) hB.size ?_; intro v1 w5 hv1 hg1 hat1)
         go_roundw
         case rel => exact ⟨k + 1, by omega, by go_num, by rw [hS.out, hA.out]; exact hv1, hB.grown hg1 hB.size (fun g hg => (hown.lt g hg).1)⟩
         case measure => simp [intOf]; omega
       · obtain rfl : k = l.length := by omega
         rw [hla.out, hal.out] at hown; obtain ⟨A5, c5, rfl, -⟩ := (Sl.of_own hown).at_; go_wp2; go_ret; exact ⟨⟨_, rfl, hown⟩, hB⟩
end
end CatB
namespace Ce
section
open Go.RowKit
theorem cloneb_calls (l : List UInt8) (v : Value) (w : World) (h : BytesAt w 0 w.heap.size v l) (hl : l.length ≤ 140737488351232) :
   Calls Tryz.prog 112 #[v] w fun e w' => (∃ v', e = .returned v' ∧ w'.ownsRow w.heap.size 5 1 v' l.length (bytesV l)) ∧ Below w.heap.size w w' := by
 obtain ⟨i0, hi0, hz0, hz1, hz2⟩ := inf3 byte_info; have h0 := h; have HL := hdd hl; clear hl; obtain ⟨A, c, rfl, hc1, hc2⟩ := h.form; unfold maxLen at hc2; have heq := Lib.run_eql_slice_nil (P := Tryz.prog) w 35 5 A l.length c 0 0 Tryz.underlying35; rcases A with _ | ad
 · have hl0 : l = [] := by
     rcases l with _ | ⟨x, r⟩
     · rfl
     · obtain ⟨b, o, e, _⟩ := h.cellAt (j := 0) (by simp)
       cases e
   subst hl0; simp only [List.length_nil] at heq ⊢
   go_enter Tryz.func112, Tryz.ntmps112
   go_wp2; go_ret; exact ⟨⟨_, rfl, World.ownsRow_nil _ _ _ _⟩, Below.refl _ _⟩
 · go_enter Tryz.func112, Tryz.ntmps112
   go_wp2_with (at_builtin
                refine wpList_append_sl _ rfl (.tmp 5) (.tmp 6) _ rfl w.heap.size 5 i0 _ 1 1 Tryz.underlying35 hi0 hz0 hz1 hz2 rfl (by omega) (.slice (some ⟨w.heap.size, 0, none⟩) 0 0) 0 [] rfl (World.ownsRow_lit w #[] 0 (Nat.le_refl _) (Nat.zero_le _) rfl) 0 w.heap.size _ l.length (bytesV l) rfl (Sl.below h0 ((Below.refl _ w).alloc (Nat.le_refl _) _)) (bytesV_one l) (by have := HL.out; unfold maxLen; omega) (by have := HL.out; omega) (by simp) ?_; intro v1 w1 hv1 hg1 hat1; have hB : Below w.heap.size w w1 := ((Below.refl _ w).alloc (Nat.le_refl _) (.cells #[] 5)).grown hg1 (by simp) (fun g hg => by cases hg; exact Nat.le_refl _); clear hg1 hat1)
   have hown : w1.ownsRow w.heap.size 5 1 v1 l.length (bytesV l) := by simpa using hv1
   obtain ⟨A1, c1, rfl, -⟩ := (BytesAt.of_own hown).form; clear hv1; go_wp2; go_ret; exact ⟨⟨_, rfl, hown⟩, hB⟩
end
end Ce
namespace Wa
section
open Go.RowKit Go.Maps
open Ce Se
def szD (D : Dv) : Nat := (D.sure.length - 2) / 2
section
variable {w w' : World} {base b d sb mb : Nat} {D D' : Dv}
theorem size_calls (h : DvAt w base d sb mb D) (h4 : 4 ≤ D.sure.length) (hc : w.cell? ⟨b, 0, none⟩ = some (.pointer (some ⟨d, 0, none⟩))) :
   Calls Tryz.prog 133 #[.pointer (some ⟨b, 0, none⟩)] w fun e w' => e = .returned (vI (szD D : Nat)) ∧ w = w' := by
 have cL := hdd (len_calls h); have hlen := h.len; have HZ := hdd (show (((D.sure.length : Int) - 2) / 2) = (szD D : Nat) by unfold szD; omega); generalize szD D = z at *; generalize D.sure.length = n at *; clear h
 go_enter Tryz.func133, Tryz.ntmps133
 go_wp2_with fail; refine cL.out.mono ?_; rintro e W ⟨rfl, rfl⟩; go_wp2; go_ret; exact ⟨by rw [← HZ.out]; rfl, rfl⟩
theorem at_calls (h : DvAt w base d sb mb D) (h4 : 4 ≤ D.sure.length) (hc : w.cell? ⟨b, 0, none⟩ = some (.pointer (some ⟨d, 0, none⟩))) (half i : Nat) (hh : half ≤ 1) (hi : i ≤ 1000000) :
   Calls Tryz.prog 216 #[.pointer (some ⟨b, 0, none⟩), vI half, vI i] w fun e w' => e = .returned (vI (Wa.base half (szD D) + i)) ∧ w = w' := by
 have cS := hdd (size_calls h h4 hc); have hlen := h.len; have hz : szD D ≤ 8191 := by unfold szD; omega
 have HB := hdd (show (2 : Int) + half * szD D = Wa.base half (szD D) from rfl); generalize szD D = z at *; generalize Wa.base half z = B at *; clear h
 go_enter Tryz.func216, Tryz.ntmps216
 go_wp2_with fail; refine cS.out.mono ?_; rintro e W ⟨rfl, rfl⟩; obtain rfl | rfl : half = 0 ∨ half = 1 := by omega
 · have hB2 : B = 2 := by have := HB.out; omega
   subst hB2; go_wp2; go_ret; exact ⟨rfl, rfl⟩
 · have hB2 : B = 2 + (z : Int) := by have := HB.out; omega
   subst hB2; go_wp2; go_ret; exact ⟨rfl, rfl⟩
end
end
end Wa
namespace Se
section
open Go.RowKit
open Ce
theorem string_at {P : Program} {w : World} {src dst e : TypeId} (hs : P.underlying src = some (.slice e)) (he : P.underlying e = some (.int .u8)) (hd : P.underlying dst = some .string) {lo B n c : Nat} {A : Option Addr} {l : List UInt8}
   (h : BytesAt w lo B (.slice A n c) l) : (convert src dst (.slice A n c)).run P w = .ok (.string ⟨l.toArray⟩) w := by
 obtain ⟨A', c', e', h1, h2, h3⟩ := h.at_; have hl : n = l.length := by cases e'; rfl
 cases e'
 match l, hl with
 | [], _ =>
   rw [run_convert_bytes_string w src dst e A _ c hs he hd]
   cases A <;> simp [Conv.bytesToString] <;> rfl
 | x :: r, _ =>
   obtain ⟨b, o, rfl, _, _, hc⟩ := h3 (by simp); refine run_convert_bytes_back w src dst e ⟨b, o, none⟩ c (x :: r) hs he hd fun j hj => ?_
   have e1 : (⟨b, o, none⟩ : Addr).add j = ⟨b, o + j, none⟩ := by unfold Addr.add; split <;> simp_all
   rw [e1, hc j (by omega)]; unfold bytesV; rw [List.getElem?_map, List.getElem?_eq_getElem hj]
   rfl
theorem string_of (w : World) {lo B n c : Nat} {A : Option Addr} {l : List UInt8} (h : BytesAt w lo B (.slice A n c) l) : (convert 35 9 (.slice A n c)).run Tryz.prog w = .ok (.string ⟨l.toArray⟩) w :=
 string_at Tryz.underlying35 Tryz.underlying5 Tryz.underlying9 h
theorem madeBytes (n : Nat) : (madeCells (Value.int .u8 0).cells (n * 1)).toList = bytesV (List.replicate n 0) := by
 have hz : (Value.int .u8 0).cells = #[.int .u8 0] := rfl; unfold madeCells bytesV; rw [hz]; apply List.ext_getElem
 · simp
 · intro i h1 h2
   simp [Nat.mod_one]
theorem byteInfo : (Tryz.prog.info? 5).map (fun i => (i.zero, i.size, i.bytes)) = some (some (.int .u8 0), 1, 1) := by kernel_rfl
theorem make_bytes (n : Nat) (w : World) (hn : n ≤ 281474976710656) : ∃ w', (Instr.makeSlice 35 (.int .i64 (n : Int)) (.int .i64 (n : Int))).run Tryz.prog w = .ok (.slice (some ⟨w.heap.size, 0, none⟩) n n) w' ∧
   w'.ownsRow w.heap.size 5 1 (.slice (some ⟨w.heap.size, 0, none⟩) n n) n (bytesV (List.replicate n 0)) ∧ w.grownBy w' none := by
 obtain ⟨i0, hi0, hz0, hz1, hz2⟩ := inf3 byteInfo; obtain ⟨w1, h1, h2, h3⟩ := run_make_full (P := Tryz.prog) w w.heap.size 35 5 i0 _ 1 Tryz.underlying35 hi0 hz0 hz1 .i64 .i64 n (by rw [hz2]; omega) (by unfold maxLen; omega) (Nat.le_refl _); rw [madeBytes] at h2; exact ⟨w1, h1, h2, h3⟩
end
end Se
namespace Wa
section
open Go.RowKit Go.Maps
open Ce Se
theorem be8_get (g : Int) {k : Nat} (hk : k < 8) : (be8 g)[k]? = some (UInt8.ofNat ((g % 18446744073709551616).toNat / 256 ^ (7 - k) % 256)) := by
 unfold be8; rw [List.getElem?_map, List.getElem?_range hk]
 rfl
def hdK (g : Int) (k : Nat) : List UInt8 := (be8 g).take k ++ List.replicate (32 - k) 0
theorem hdK_len (g : Int) {k : Nat} (hk : k ≤ 8) : (hdK g k).length = 32 := by simp [hdK, be8_len]; omega
theorem hdK_set (g : Int) {k : Nat} (hk : k < 8) : (hdK g k).set k (UInt8.ofNat ((g % 18446744073709551616).toNat / 256 ^ (7 - k) % 256)) = hdK g (k + 1) := by
 have hl : ((be8 g).take k).length = k := by rw [List.length_take, be8_len]; omega
 have h2 := be8_get g hk; obtain ⟨h3, h4⟩ := List.getElem?_eq_some_iff.1 h2; unfold hdK; rw [List.set_append_right _ _ (by omega), hl, Nat.sub_self, show 32 - k = (32 - (k + 1)) + 1 by omega, List.replicate_succ, List.set_cons_zero, ← h4, List.take_succ_eq_append_getElem h3, List.append_assoc]
 rfl
theorem hdK_half (g : Int) (half : Nat) : (hdK g 8).set 8 (UInt8.ofNat half) = h32 g half := by
 have hl : ((be8 g).take 8).length = 8 := by rw [List.length_take, be8_len]; omega
 unfold hdK h32; rw [List.set_append_right _ _ (by omega), hl, Nat.sub_self, List.take_of_length_le (by rw [be8_len]; omega)]
 rfl
theorem row_wide {w : World} {lo lo' : Nat} {e : TypeId} {size n : Nat} {v : Value} {xs : List Value} (h : w.ownsRow lo e size v n xs) (hl : lo' ≤ lo) : w.ownsRow lo' e size v n xs := by
 refine ⟨h.1, ?_⟩; rcases h.2 with h2 | ⟨g, cap, cur, h1, h3, h4⟩
 · exact .inl h2
 · exact .inr ⟨g, cap, cur, h1, Nat.le_trans hl h3, h4⟩
theorem cat2_calls (w : World) (bk : Nat) (u v : Value) (x y : List UInt8) (hbk : bk < w.heap.size) (h0 : w.cell? ⟨bk, 0, none⟩ = some u) (h1 : w.cell? ⟨bk, 1, none⟩ = some v) (hu : BytesAt w 0 w.heap.size u x) (hv : BytesAt w 0 w.heap.size v y) (hl : x.length + y.length ≤ 1000000) :
   Calls Tryz.prog 200 #[.slice (some ⟨bk, 0, none⟩) 2 2] w fun e w' => (∃ r, e = .returned r ∧ w'.ownsRow w.heap.size 5 1 r (x ++ y).length (bytesV (x ++ y))) ∧ Below w.heap.size w w' := by
 obtain ⟨A1, c1, rfl, -⟩ := hu.form; obtain ⟨A2, c2, rfl, -⟩ := hv.form
 refine (CatB.concat_calls [(A1, x.length, c1, bytesV x), (A2, y.length, c2, bytesV y)] bk 2 w (by simp) (by unfold maxLen; omega) hbk (fun j hj => by
   match j, hj with
   | 0, _ => exact h0
   | 1, _ => exact h1)
   ⟨fun p hp => by
     simp only [List.mem_cons, List.not_mem_nil, or_false] at hp; rcases hp with rfl | rfl
     · exact hu
     · exact hv, fun p hp => by
     simp only [List.mem_cons, List.not_mem_nil, or_false] at hp; rcases hp with rfl | rfl
     · exact bytesV_one _
     · exact bytesV_one _⟩ (by simp [CatB.lens]; omega)).mono ?_
 rintro e w' ⟨⟨r, rfl, hr⟩, hb⟩; refine ⟨⟨r, rfl, ?_⟩, hb⟩; simpa [CatB.lens, CatB.all, bytesV_append] using hr
theorem bytesV_set (l : List UInt8) (j : Nat) (u : UInt8) : bytesV (l.set j u) = (bytesV l).set j (.int .u8 (u.toNat : Int)) := by simp [bytesV, List.map_set]
theorem head_calls (g : Int) (half : Nat) (hh : half ≤ 1) (w : World) (h0 : -9223372036854775808 ≤ g) (h1 : g < 9223372036854775808) :
   Calls Tryz.prog 172 #[vI g, vI half] w fun e w' => (∃ v, e = .returned v ∧ w'.ownsRow w.heap.size 5 1 v 64 (bytesV (headB g half))) ∧ Below w.heap.size w w' := by
 obtain ⟨w1, hmk, hv1, hg1⟩ := make_bytes 32 w (by omega); rw [show ((32 : Nat) : Int) = 32 from rfl] at hmk; have hb1 := (Below.refl w.heap.size w).grown hg1 (Nat.le_refl _) (fun k e => by cases e); rw [show List.replicate 32 (0 : UInt8) = hdK g 0 by unfold hdK; simp] at hv1; have hs1 := hg1.size; have HU := hdd (show (g % 18446744073709551616).toNat < 18446744073709551616 by omega); have HUG := hdd (show g % 18446744073709551616 = ((g % 18446744073709551616).toNat : Int) by omega); have HST := hdd (fun k (hk : k < 8) => hdK_set g hk); have HSH := hdd (hdK_half g half); generalize (g % 18446744073709551616).toNat = U at *
 go_enter Tryz.func172, Tryz.ntmps172
 go_wp2
 go_loopw [6, 8] (fun _ i wr => ∃ k : Nat, k ≤ 8 ∧ i = vI k ∧ wr.ownsRow w.heap.size 5 1 (.slice (some ⟨w.heap.size, 0, none⟩) 32 32) 32 (bytesV (hdK g k)) ∧ Below w.heap.size w wr) (fun _ i _ => 8 - (intOf i).toNat)
 case atStart => exact ⟨0, by omega, rfl, hv1, hb1⟩
 case round =>
   obtain ⟨k, hk, rfl, hown, hB⟩ := hrel
   by_cases hlt : k < 8
   · have hcl := hown.cellAt k (by omega)
     rw [List.getElem?_eq_getElem (by rw [bytesV_length, hdK_len g (by omega)]; omega)] at hcl; have hfz := hown.frozenAt k; go_wp2
     have hbt : Value.int .u8 (IntKind.u64.wrap g / 2 ^ (8 * (7 - k)) % 256) = .int .u8 ((UInt8.ofNat (U / 256 ^ (7 - k) % 256)).toNat : Int) := by
       have e1 : IntKind.u64.wrap g = (U : Int) := by rw [← HUG.out]; rfl
       rw [e1, byte_shift (by omega), Int.toNat_natCast]
       congr 2
       simp
     rw [hbt]; obtain ⟨hown2, hg2⟩ := hown.stored k (.int .u8 ((UInt8.ofNat (U / 256 ^ (7 - k) % 256)).toNat : Int))
     go_roundw
     case rel =>
       refine ⟨k + 1, by omega, by go_num, ?_, hB.grown hg2 hB.size (fun k e => by cases e; exact Nat.le_refl _)⟩; rw [← HST.out k hlt, bytesV_set]; exact hown2
     case measure => simp [intOf]; omega
   · obtain rfl : k = 8 := by omega
     have hcl := hown.cellAt 8 (by omega); rw [List.getElem?_eq_getElem (by rw [bytesV_length, hdK_len g (by omega)]; omega)] at hcl; have hfz := hown.frozenAt 8; obtain ⟨hown2, hg2⟩ := hown.stored 8 (.int .u8 ((UInt8.ofNat half).toNat : Int)); have hB2 := hB.grown hg2 hB.size (fun k e => by cases e; exact Nat.le_refl _); rw [← bytesV_set, HSH.out] at hown2; have hhb : (UInt8.ofNat half).toNat = half := by simp; omega
     rw [hhb] at hown2 hB2; have hal := hB2.alloc hB2.size (.cells #[.slice (some ⟨w.heap.size, 0, none⟩) 32 32, .slice (some ⟨w.heap.size, 0, none⟩) 32 32] 35)
     have hsl : BytesAt ((wr.setCell ⟨w.heap.size, 8, none⟩ (.int .u8 (half : Int))).alloc (.cells #[.slice (some ⟨w.heap.size, 0, none⟩) 32 32, .slice (some ⟨w.heap.size, 0, none⟩) 32 32] 35)) 0 ((wr.setCell ⟨w.heap.size, 8, none⟩ (.int .u8 (half : Int))).alloc (.cells #[.slice (some ⟨w.heap.size, 0, none⟩) 32 32, .slice (some ⟨w.heap.size, 0, none⟩) 32 32] 35)).heap.size (.slice (some ⟨w.heap.size, 0, none⟩) 32 32) (h32 g half) := by
       unfold BytesAt; rw [h32_len]; exact ((Sl.of_own hown2).below ((Below.refl _ _).alloc (Nat.le_refl _) _)).wide (Nat.zero_le _) (by simp)
     have hob := Ob.new (wr.setCell ⟨w.heap.size, 8, none⟩ (.int .u8 (half : Int))) 35 #[.slice (some ⟨w.heap.size, 0, none⟩) 32 32, .slice (some ⟨w.heap.size, 0, none⟩) 32 32]; have cC := cat2_calls ((wr.setCell ⟨w.heap.size, 8, none⟩ (.int .u8 (half : Int))).alloc (.cells #[.slice (some ⟨w.heap.size, 0, none⟩) 32 32, .slice (some ⟨w.heap.size, 0, none⟩) 32 32] 35)) (wr.setCell ⟨w.heap.size, 8, none⟩ (.int .u8 (half : Int))).heap.size _ _ (h32 g half) (h32 g half) hob.lt (hob.k 0 rfl) (hob.k 1 rfl) hsl hsl (by simp [h32_len]); rw [show h32 g half ++ h32 g half = headB g half from rfl, headB_len] at cC; have hss : (wr.setCell ⟨w.heap.size, 8, none⟩ (.int .u8 (half : Int))).heap.size = wr.heap.size := by simp
     rw [hss] at cC; have CC := hdd cC; have HAL := hdd hal; clear cC hsl hown2 hg2 hB2 hhb hown hal hob hss; go_wp2_with fail; refine CC.out.mono ?_; rintro e W ⟨⟨r, rfl, hr⟩, hb⟩; have hlt2 := HAL.out.size; go_wp2; go_ret; exact ⟨⟨r, rfl, row_wide hr (by omega)⟩, HAL.out.trans (hb.mono hlt2)⟩
theorem be_short {l : List UInt8} (h : l.length ≤ 7) : be l < 72057594037927936 := by
 have h1 := beF_lt l; have h2 : 256 ^ l.length ≤ 256 ^ 7 := Nat.pow_le_pow_right (by omega) h; omega
theorem be_eight {l : List UInt8} (h : l.length ≤ 8) : be l < 18446744073709551616 := by
 have h1 := beF_lt l; have h2 : 256 ^ l.length ≤ 256 ^ 8 := Nat.pow_le_pow_right (by omega) h; omega
theorem or_byte {u : Nat} (c : UInt8) (hu : u < 72057594037927936) : bits .or .u64 ((u : Int) * 256) (c.toNat : Int) = ((u * 256 + c.toNat : Nat) : Int) := by
 have hc := c.toNat_lt; have e : (u : Int) * 256 = ((u * 256 : Nat) : Int) := by omega
 rw [e, bits_or_u64_nat _ _ (by omega) (by omega)]
 congr 1
 have := Nat.two_pow_add_eq_or_of_lt (i := 8) (b := c.toNat) (by omega) u; rw [show (2 : Nat) ^ 8 = 256 by rfl] at this; rw [Nat.mul_comm u 256]; exact this.symm
theorem isHead_calls (l : Blk) (hl : l.length = 64) (i : Nat) (hi : i ≤ 1) (v : Value) (w : World) (hI : BytesAt w 0 w.heap.size v l) :
   Calls Tryz.prog 160 #[v, vI i] w fun e w' => e = .returned (.tuple #[vI (isHd l i).1, vI (isHd l i).2]) ∧ Below w.heap.size w w' := by
 obtain ⟨A, c, rfl, hc1, hc2⟩ := hI.form; rw [hl] at hI hc1 ⊢; have HG := hdd (fun k (hk : k < 64) => hI.cellAt (j := k) (by omega)); obtain ⟨p, o, hA, -⟩ := HG.out 0 (by omega); subst hA
 have HC := hdd (fun k (hk : k < 64) => show w.cell? ⟨p, o + k, none⟩ = some (.int .u8 ((l.getD k 0).toNat : Int)) by
   obtain ⟨p', o', e, h1, h2, h3⟩ := HG.out k hk
   cases e
   rw [h3, List.getD_eq_getElem?_getD, List.getElem?_eq_getElem (by omega)]
   rfl)
 unfold maxLen at hc2
 go_enter Tryz.func160, Tryz.ntmps160
 go_wp2
 go_loop [6, 8, 14] (fun u _ i => ∃ k : Nat, k ≤ 8 ∧ i = vI k ∧ u = .int .u64 (be (l.take k))) (fun _ _ i => 8 - (intOf i).toNat)
 case atStart => exact ⟨0, by omega, rfl, rfl⟩
 case round =>
   obtain ⟨k, hk, rfl, rfl⟩ := hrel
   by_cases hlt : k < 8
   · have hcell := HC.out k (by omega)
     have hub := be_short (l := l.take k) (by rw [List.length_take]; omega); have HS := hdd (show be (l.take (k + 1)) = be (l.take k) * 256 + (l.getD k 0).toNat by rw [List.take_succ_eq_append_getElem (by omega), be_snoc, List.getD_eq_getElem?_getD, List.getElem?_eq_getElem (by omega)]; rfl); have hq : (l.getD k 0).toNat < 256 := (l.getD k 0).toNat_lt; have hor := or_byte (l.getD k 0) hub; generalize be (l.take k) = u at *; generalize (l.getD k 0).toNat = q at *; go_wp2
     go_round
     case rel => exact ⟨k + 1, by omega, by go_num, by rw [HS.out]; go_num⟩
     case measure => simp [intOf]; omega
   · obtain rfl : k = 8 := by omega
     have hub := be_eight (l := l.take 8) (by rw [List.length_take]; omega); have hcell := HC.out 8 (by omega); have HD := hdd (show isHd l i = if toI (be (l.take 8)) < 1 ∨ toI (be (l.take 8)) % 2 ≠ i ∨ (l.getD 8 0).toNat > 1 ∨ headB (toI (be (l.take 8))) (l.getD 8 0).toNat ≠ l then (0, 0) else (toI (be (l.take 8)), (l.getD 8 0).toNat) from rfl); have HW := hdd (show wrap64 (be (l.take 8) : Int) = toI (be (l.take 8)) by unfold wrap64 toI; split <;> omega); have htb := toI_bd hub; have HI := hdd hI; have hq : (l.getD 8 0).toNat < 256 := (l.getD 8 0).toNat_lt; generalize (l.getD 8 0).toNat = H at *; generalize be (l.take 8) = u at *; generalize toI u = G at *; clear hI HG HC; go_wp2_with fail
     go_region
     rw [HW.out]; clear HW hcell hub hq hc1 hc2; have hdr : Below w.heap.size w w.drew.drew := ((Below.refl _ w).drew).drew
     by_cases h1 : G < 1
     · have HR := hdd (HD.out.trans (if_pos (.inl h1)))
       have hd : decide (G < 1) = true := by simpa using h1
       clear h1 HD HI hdr; go_wp2_with fail
       go_region
       go_wp2; go_ret2; rw [HR.out]; exact ⟨rfl, ((Below.refl _ w).drew).drew⟩
     · have hd : decide (G < 1) = false := by simpa using h1
       have hg1 : 1 ≤ G := by omega
       by_cases h2 : G % 2 ≠ i
       · have HR := hdd (HD.out.trans (if_pos (.inr (.inl h2))))
         have hd2 : (G % 2 != (i : Int)) = true := by simpa using h2
         clear h1 h2 HD HI hdr; go_wp2_with fail
         go_region
         go_wp2; go_ret2; rw [HR.out]; exact ⟨rfl, ((Below.refl _ w).drew).drew⟩
       · have hd2 : (G % 2 != (i : Int)) = false := by simpa using h2
         by_cases h3 : H > 1
         · have HR := hdd (HD.out.trans (if_pos (.inr (.inr (.inl h3)))))
           have hd3 : decide ((H : Int) > 1) = true := by simp; omega
           clear h1 h2 h3 HD HI hdr; go_wp2_with fail
           go_region
           go_wp2; go_ret2; rw [HR.out]; exact ⟨rfl, ((Below.refl _ w).drew).drew⟩
         · have hd3 : decide ((H : Int) > 1) = false := by simp; omega
           obtain ⟨s2, hs2⟩ : ∃ s2 : ByteArray, s2 = ⟨l.toArray⟩ := ⟨_, rfl⟩; have hI2 := fun (W : World) (hW : Below w.heap.size w W) => string_of W (BytesAt.mono HI.out hW hW.size)
           rw [← hs2] at hI2; have HI2 := hdd hI2; have hc0 := hI2 _ (Below.refl _ w).drew.drew; have hdr := (Below.refl w.heap.size w).drew.drew; have CH := hdd (fun W => head_calls G H (by omega) W htb.1 htb.2)
           have hq : (headB G H = l ∧ isHd l i = (G, H)) ∨ (¬ headB G H = l ∧ isHd l i = (0, 0)) := by
             by_cases h4 : headB G H = l
             · exact .inl ⟨h4, HD.out.trans (if_neg (fun h => h.elim h1 fun h => h.elim h2 fun h => h.elim h3 fun h => h h4))⟩
             · exact .inr ⟨h4, HD.out.trans (if_pos (.inr (.inr (.inr h4))))⟩
           have HQ := hdd hq; have HS2 := hdd hs2; clear h1 h2 h3 HD HI hI2 hq hs2 hc0; go_wp2_with fail; refine Pu.regionM [(0, false), (1, false), (2, false), (3, false), (4, false), (5, false), (6, false), (7, false), (8, false), (9, false), (10, false), (11, false), (12, false), (13, false), (14, false), (17, false), (18, false), (15, true), (16, false), (19, false), (20, false)] (fun V => Below w.heap.size w V) hmx (by kernel_rfl) (by kernel_rfl) (by kernel_rfl) hdr rfl ?_; simp only [Pu.named, List.filterMap_cons, List.filterMap_nil, zzJ, zzK, zzL, zzM]
           iterate 17 (apply Pu.WalkM.on (by rfl)
                       · rintro V hV
                         have hc0 := HI2.out V hV; go_wp2_with fail; refine ⟨rfl, ?_, rfl⟩
                         try simp only [Act.put, zzA, zzB, zzC]
                         rfl
                       simp only [Act.put, zzA, zzB, zzC])
           refine Pu.WalkM.make (by rfl) ?_; rintro V rfl; go_wp2_with (go_at_call 172; refine (CH.out _).mono ?_; rintro e W1 ⟨⟨v1, rfl, hv1⟩, hb1⟩)
           have hv2 : BytesAt W1 w.drew.drew.heap.size W1.heap.size v1 (headB G H) := by
             unfold BytesAt; rw [headB_len]; exact Sl.of_own hv1
           obtain ⟨A1, c1, rfl, -⟩ := hv2.form; have hx := string_of W1 hv2; generalize (headB G H).length = n1 at *; refine ⟨rfl, .slice A1 n1 c1, (fun V => V = W1), (fun V => V = W1), ?_, rfl, (fun _ h => h), (.inr (fun V h => by rw [h]; exact hdr.trans (hb1.mono hdr.size))), ?_⟩
           · try simp only [Act.put, zzA, zzB, zzC]
           simp only [Act.put, zzA, zzB, zzC]; have hB1 := hdr.trans (hb1.mono hdr.size); rcases HQ.out with ⟨q1, q2⟩ | ⟨q1, q2⟩
           · rw [q1, ← HS2.out] at hx
             have HR := hdd q2; clear q1 q2 HQ HI2
             iterate 3 (apply Pu.WalkM.on (by rfl)
                        · rintro V hV
                          rw [hV]; go_wp2_with fail; refine ⟨rfl, ?_, rfl⟩
                          try simp only [Act.put, zzA, zzB, zzC]
                          rfl
                        simp only [Act.put, zzA, zzB, zzC])
             refine Pu.WalkM.nil ?_; rintro V rfl; go_wp2; go_ret2; rw [HR.out]; exact ⟨rfl, hB1⟩
           · obtain ⟨s1, hs1⟩ : ∃ s1 : ByteArray, s1 = ⟨(headB G H).toArray⟩ := ⟨_, rfl⟩
             rw [← hs1] at hx
             have hne : ¬ s1.toList = s2.toList := by
               rw [ByteArray.toList_eq, ByteArray.toList_eq, hs1, HS2.out]; exact q1
             have hnb : (s1.toList == s2.toList) = false := by simpa using hne
             have HR := hdd q2; clear q1 q2 HQ HI2 hs1 hne
             iterate 3 (apply Pu.WalkM.on (by rfl)
                        · rintro V hV
                          rw [hV]; go_wp2_with fail; refine ⟨rfl, ?_, rfl⟩
                          try simp only [Act.put, zzA, zzB, zzC]
                          rfl
                        simp only [Act.put, zzA, zzB, zzC])
             refine Pu.WalkM.nil ?_; rintro V rfl; go_wp2; go_ret2; rw [HR.out]; exact ⟨rfl, hB1⟩
end
section
open Go.RowKit Go.Maps
open Ce Se
theorem BlkAt.bytes {w w' : World} {v : Value} {b : Blk} (h : BlkAt w w' v b) (hb : b.length = 64) : BytesAt w' w.heap.size w'.heap.size v b := by
 obtain ⟨g, rfl, h1, h2, h3, h4⟩ := h; unfold BytesAt; rw [hb]; refine ⟨by rw [bytesV_length, hb], _, _, rfl, Nat.le_refl _, by unfold maxLen; omega, fun _ => ⟨g, 0, rfl, h1, h2, fun j hj => ?_⟩⟩; have hj2 : j < (bytesV b).length := by rw [bytesV_length]; omega
 rw [List.getElem?_eq_getElem hj2]; exact h3 j _ (List.getElem?_eq_getElem hj2)
theorem upto {w : World} {lo B n k c : Nat} {A : Option Addr} {l : List UInt8} (h : BytesAt w lo B (.slice A n c) l) (hk : k ≤ l.length) : BytesAt w lo B (.slice A k c) (l.take k) := by
 have hn : n = l.length := by
   obtain ⟨A', c', e, _⟩ := h.at_
   cases e; rfl
 subst hn; have := Sl.upTo (k := k) h hk; unfold BytesAt; rw [List.length_take, Nat.min_eq_left hk]; have e : bytesV (l.take k) = (bytesV l).take (k * 1) := by simp [bytesV]
 rw [e]; exact this
def halfB (D : Dv) (half : Nat) : List Blk := (List.range (szD D)).map fun i => lastD D (2 + half * szD D + i)
theorem halfB_len (D : Dv) (half : Nat) : (halfB D half).length = szD D := by simp [halfB]
theorem halfB_get (D : Dv) (half : Nat) {k : Nat} (hk : k < szD D) : (halfB D half)[k]? = some (lastD D (2 + half * szD D + k)) := by simp [halfB, hk]
theorem strm_go {bs : List Blk} {O S : List UInt8} {k : Nat} (h : O ++ strmOf (bs.drop k) = S) {b : Blk} (hb : bs[k]? = some b) {n : Nat} (hn : (b.getD 63 0).toNat = n) :
   (63 < n → O = S) ∧ (n < 63 → O ++ b.take n = S) ∧ (n = 63 → (O ++ b.take n) ++ strmOf (bs.drop (k + 1)) = S) := by
 obtain ⟨hk, hb⟩ := List.getElem?_eq_some_iff.1 hb; rw [List.drop_eq_getElem_cons hk, hb] at h; simp only [strmOf, hn] at h; refine ⟨fun h1 => ?_, fun h1 => ?_, fun h1 => ?_⟩
 · rw [if_neg (by omega), List.append_nil] at h
   exact h
 · rw [if_pos (by omega), if_neg (by omega), List.append_nil] at h
   exact h
 · rw [if_pos (by omega), if_pos h1, ← List.append_assoc] at h
   exact h
section
variable {w w' : World} {base b d sb mb : Nat} {D D' : Dv}
theorem stream_calls (h : DvAt w base d sb mb D) (h4 : 4 ≤ D.sure.length) (ho : offD D = false) (hbl : b < w.heap.size) (hc : w.cell? ⟨b, 0, none⟩ = some (.pointer (some ⟨d, 0, none⟩))) (half : Nat) (hh : half ≤ 1) :
   Calls Tryz.prog 161 #[.pointer (some ⟨b, 0, none⟩), vI half] w fun e w' => (∃ v, e = .returned (.tuple #[v, vO]) ∧ w'.ownsRow w.heap.size 5 1 v (strmOf (halfB D half)).length (bytesV (strmOf (halfB D half)))) ∧ Below w.heap.size w w' := by
 have hlen := h.len; have hz : szD D ≤ 8191 := by unfold szD; omega
 have hz1 : 1 ≤ szD D := by unfold szD; omega
 have hbz : 2 + half * szD D + szD D ≤ D.sure.length := by
   have := Nat.mul_le_mul_right (szD D) hh; unfold szD at this ⊢; omega
 have CS := hdd (fun (W : World) (hW : Below w.heap.size w W) => size_calls (h.same hW) h4 ((hW.cell (p := ⟨b, 0, none⟩) hbl).trans hc)); have CA := hdd (fun (W : World) (hW : Below w.heap.size w W) (i : Nat) (hi : i ≤ 1000000) => at_calls (h.same hW) h4 ((hW.cell (p := ⟨b, 0, none⟩) hbl).trans hc) half i hh hi); have CR := hdd (fun (W : World) (hW : Below w.heap.size w W) (i : Nat) (hi : i < D.sure.length) => read_good (h.same hW) ho i hi); have HC := hdd (fun (W : World) (hW : Below w.heap.size w W) => (hW.cell (p := ⟨b, 0, none⟩) hbl).trans hc); have HL := hdd (halfB_len D half); have HG := hdd (fun (k : Nat) (hk : k < szD D) => halfB_get D half hk); have HLB := hdd (fun (i : Nat) (hi : i < D.sure.length) => lastD_len h.ok hi); have HBE := hdd (fun (k : Nat) => show Wa.base half (szD D) + k = ((2 + half * szD D + k : Nat) : Int) by unfold Wa.base; simp); generalize hbs : halfB D half = bs at *; generalize hzz : szD D = z at *; obtain ⟨i0, hi0, hz0⟩ := Option.map_eq_some_iff.1 byte_info; simp only [Prod.mk.injEq] at hz0; obtain ⟨hz0, hz1', hz2⟩ := hz0; generalize hS : strmOf bs = S at *; have HS := hdd hS; clear h hc hbs ho hzz hS
 go_enter Tryz.func161, Tryz.ntmps161
 go_wp2_with fail; refine (CS.out _ (Below.refl _ _)).mono ?_; rintro e W ⟨rfl, rfl⟩; go_wp2_with fail
 go_loopw [6, 7, 8, 9, 10, 13] (fun o _ _ _ _ i wr => ∃ (k : Nat) (O : List UInt8), k ≤ z ∧ i = vI k ∧ wr.ownsRow w.heap.size 5 1 o O.length (bytesV O) ∧ O ++ strmOf (bs.drop k) = S ∧ O.length ≤ 63 * k ∧ Below w.heap.size w wr) (fun _ _ _ _ _ i _ => z - (intOf i).toNat)
 case atStart => exact ⟨0, [], by omega, rfl, World.ownsRow_nil _ _ _ _, by rw [← HS.out]; rfl, by simp, Below.refl _ _⟩
 case round =>
   obtain ⟨k, O, hk, rfl, hown, hO, hOl, hB⟩ := hrel
   by_cases hlt : k < z
   · have hcr := HC.out _ hB.drew
     have hdr := hB.drew; have HGk := HG.out k hlt; have hik : 2 + half * z + k < D.sure.length := by omega
     obtain ⟨m, hm⟩ : ∃ m : Nat, 2 + half * z + k = m := ⟨_, rfl⟩; have cA := fun (W : World) (hW : Below w.heap.size w W) => CA.out W hW k (by omega)
     rw [HBE.out k, hm] at cA; have CAk := hdd cA; rw [hm] at HGk hik; have hl64 := HLB.out _ hik; have HOO := hdd (fun (n : Nat) hn => strm_go (n := n) hO HGk hn); have CR2 := hdd (fun W hW => CR.out W hW _ hik); generalize lastD D m = blk at *; have CR3 := CR2; clear HGk hO CR2 hcr cA hm; go_wp2_with fail; refine Pu.regionM [(0, false), (1, false), (2, false), (3, false), (4, false), (5, false), (6, false), (7, false), (8, true), (9, false), (10, false), (11, false), (12, false), (13, false)] (fun V => Below w.heap.size w V) hmx (by kernel_rfl) (by kernel_rfl) (by kernel_rfl) hdr rfl ?_; simp only [Pu.named, List.filterMap_cons, List.filterMap_nil, zzJ, zzK, zzL, zzM]
     iterate 7 (apply Pu.WalkM.on (by rfl)
                · rintro V hV
                  have hcr := HC.out V hV; go_wp2_with fail; refine ⟨rfl, ?_, rfl⟩
                  try simp only [Act.put, zzA, zzB, zzC]
                  rfl
                simp only [Act.put, zzA, zzB, zzC])
     iterate 1 (apply Pu.WalkM.on (by rfl)
                · rintro V hV
                  go_wp2_with (go_at_call 216; refine (CAk.out _ hV).mono ?_; rintro e W1 ⟨rfl, rfl⟩); refine ⟨rfl, ?_, rfl⟩
                  try simp only [Act.put, zzA, zzB, zzC]
                  rfl
                simp only [Act.put, zzA, zzB, zzC])
     refine Pu.WalkM.make (by rfl) ?_; rintro V rfl; go_wp2_with (go_at_call 159; refine (CR3.out _ hdr).mono ?_; rintro e W1 ⟨⟨v1, rfl, hv1⟩, hb1⟩); have hB1 := hdr.trans (hb1.mono hdr.size); have hv2 := BlkAt.bytes hv1 hl64; obtain ⟨A1, c1, rfl, hc1, hc2⟩ := hv2.form; rw [hl64] at hv1 hv2 hc1; have hown1 := ownsRow_below hown ((Below.refl _ wr).drew.trans hb1); refine ⟨rfl, .tuple #[.slice A1 (List.length blk) c1, vO], (fun V => V = W1), (fun V => V = W1), ?_, rfl, (fun _ h => h), (.inr (fun V h => by rw [h]; exact hB1)), ?_⟩
     · try simp only [Act.put, zzA, zzB, zzC]
     simp only [Act.put, zzA, zzB, zzC]
     iterate 5 (apply Pu.WalkM.on (by rfl)
                · rintro V hV
                  rw [hV]; go_wp2_with fail; refine ⟨rfl, ?_, rfl⟩
                  try simp only [Act.put, zzA, zzB, zzC]
                  rfl
                simp only [Act.put, zzA, zzB, zzC])
     refine Pu.WalkM.nil ?_; rintro V rfl; rw [hl64]; obtain ⟨p1, o1, e1, hp1, hp2, hcl⟩ := hv2.cellAt (j := 63) (by omega); subst e1
     have hcl2 : V.cell? ⟨p1, o1 + 63, none⟩ = some (.int .u8 ((blk.getD 63 0).toNat : Int)) := by
       rw [hcl, List.getD_eq_getElem?_getD, List.getElem?_eq_getElem (by omega)]
       rfl
     have hnn : (blk.getD 63 0).toNat < 256 := (blk.getD 63 0).toNat_lt; have HO2 := HOO; have HO3 := hdd (HO2.out _ rfl); have hupto := fun (n : Nat) (hn : n ≤ 64) => upto hv2 (k := n) (by omega)
     generalize (blk.getD 63 0).toNat = n at *; obtain ⟨hO3, hO4, hO5⟩ := HO3.out; rcases (show n < 63 ∨ n = 63 ∨ 63 < n by omega) with hn | rfl | hn
     · have hd1 : decide ((n : Int) ≤ 63) = true := by simp; omega
       have hd2 : ((n : Int) != 63) = true := by simp; omega
       have k1 : (0 : Int) ≤ (n : Int) := by omega
       have k2 : (n : Int) ≤ (c1 : Int) := by omega
       have HOS := hdd (hO4 hn); have hut := hupto n (by omega); unfold BytesAt at hut; have hln : (blk.take n).length = n := by rw [List.length_take]; omega
       rw [hln] at hut; have HUT := hdd hut; have HS2 := hB1.size; clear hO3 hO4 hO5 HO3 HO2 HOO hupto hut hv1 hv2 hcl
       go_wp2_with (at_builtin
                    refine wpList_append_sl _ rfl (.tmp 37) (.tmp 40) _ rfl w.heap.size 5 i0 _ 1 1 Tryz.underlying35 hi0 hz0 hz1' hz2 rfl (by omega) u6 O.length (bytesV O) rfl hown1 wr.drew.heap.size V.heap.size _ n (bytesV (blk.take n)) rfl HUT.out (bytesV_one _) (by unfold maxLen; omega) (by omega) HS2 ?_; intro v5 w5 hv5 hg5 hat5)
       have hB5 := hB1.grown hg5 HS2 (fun g hg => (hown1.lt g hg).1)
       have hv6 : w5.ownsRow w.heap.size 5 1 v5 (O ++ blk.take n).length (bytesV (O ++ blk.take n)) := by
         rw [List.length_append, hln, bytesV_append]; exact hv5
       clear hv5 hg5 hat5; rw [HOS.out] at hv6; obtain ⟨A, c, rfl, -⟩ := (BytesAt.of_own hv6).form; go_wp2; go_ret2; exact ⟨⟨_, rfl, hv6⟩, hB5⟩
     · have hd1 : decide (((63 : Nat) : Int) ≤ 63) = true := by decide
       have hd2 : (((63 : Nat) : Int) != 63) = false := by decide
       have k1 : (0 : Int) ≤ ((63 : Nat) : Int) := by omega
       have k2 : ((63 : Nat) : Int) ≤ (c1 : Int) := by omega
       have HOS := hdd (hO5 rfl); have hut := hupto 63 (by omega); unfold BytesAt at hut; have hln : (blk.take 63).length = 63 := by rw [List.length_take]; omega
       rw [hln] at hut; have HUT := hdd hut; have HS2 := hB1.size; clear hO3 hO4 hO5 HO3 HO2 HOO hupto hut hv1 hv2 hcl
       go_wp2_with (at_builtin
                    refine wpList_append_sl _ rfl (.tmp 37) (.tmp 40) _ rfl w.heap.size 5 i0 _ 1 1 Tryz.underlying35 hi0 hz0 hz1' hz2 rfl (by omega) u6 O.length (bytesV O) rfl hown1 wr.drew.heap.size V.heap.size _ 63 (bytesV (blk.take 63)) rfl HUT.out (bytesV_one _) (by unfold maxLen; omega) (by omega) HS2 ?_; intro v5 w5 hv5 hg5 hat5)
       have hB5 := hB1.grown hg5 HS2 (fun g hg => (hown1.lt g hg).1)
       have hv6 : w5.ownsRow w.heap.size 5 1 v5 (O ++ blk.take 63).length (bytesV (O ++ blk.take 63)) := by
         rw [List.length_append, hln, bytesV_append]; exact hv5
       clear hv5 hg5 hat5
       go_roundw
       case rel => exact ⟨k + 1, O ++ blk.take 63, by omega, by go_num, hv6, HOS.out, by rw [List.length_append, hln]; omega, hB5⟩
       case measure => simp [intOf]; omega
     · have hd1 : decide ((n : Int) ≤ 63) = false := by simp; omega
       have hd2 : ((n : Int) != 63) = true := by simp; omega
       have hOS := hO3 hn; rw [hOS] at hown1; obtain ⟨A, c, rfl, -⟩ := (BytesAt.of_own hown1).form; clear hO3 hO4 hO5 hn HO3 HO2 HOO hupto hcl hv1 hv2; go_wp2; go_ret2; exact ⟨⟨_, rfl, hown1⟩, hB1⟩
   · obtain rfl : k = z := by omega
     have hd := HL.out; rw [List.drop_of_length_le (by omega), show strmOf [] = [] from rfl, List.append_nil] at hO; rw [hO] at hown hOl; obtain ⟨A, c, rfl, -⟩ := (BytesAt.of_own hown).form; go_wp2; go_ret2; exact ⟨⟨_, rfl, hown⟩, hB⟩
end
end
section
open Go.RowKit Go.Maps
open Ce Se
def EntAt (w : World) (Fr : Nat → Prop) (v : Value) (l : List UInt8) : Prop := ∃ lo hi, BytesAt w lo hi v l ∧ hi ≤ w.heap.size ∧ ∀ i, lo ≤ i → i < hi → Fr i
def Ents (w : World) (Fr : Nat → Prop) : List Value → List (List UInt8) → Prop
 | [], [] => True
 | v :: vs, l :: ls => EntAt w Fr v l ∧ Ents w Fr vs ls
 | _, _ => False
section
variable {w w' : World} {Fr Fr' : Nat → Prop} {v : Value} {l : List UInt8}
theorem EntAt.of {lo hi : Nat} (h : BytesAt w lo hi v l) (hh : hi ≤ w.heap.size) : EntAt w (fun i => lo ≤ i ∧ i < hi) v l := ⟨lo, hi, h, hh, fun _ h1 h2 => ⟨h1, h2⟩⟩
theorem EntAt.mono (h : EntAt w Fr v l) (hF : ∀ i, Fr i → Fr' i) : EntAt w Fr' v l := by
 obtain ⟨lo, hi, h1, h2, h3⟩ := h; exact ⟨lo, hi, h1, h2, fun i a b => hF i (h3 i a b)⟩
theorem EntAt.kept (h : EntAt w Fr v l) (hk : Kept Fr w w') : EntAt w' Fr v l := by
 obtain ⟨lo, hi, h1, h2, h3⟩ := h; exact ⟨lo, hi, hk.sl h1 h3, Nat.le_trans h2 hk.size, h3⟩
theorem EntAt.bytes (h : EntAt w Fr v l) : BytesAt w 0 w.heap.size v l := by
 obtain ⟨lo, hi, h1, h2, h3⟩ := h; exact h1.wide (Nat.zero_le _) h2
theorem EntAt.lt (h : EntAt w Fr v l) : EntAt w (fun i => Fr i ∧ i < w.heap.size) v l := by
 obtain ⟨lo, hi, h1, h2, h3⟩ := h; exact ⟨lo, hi, h1, h2, fun i a b => ⟨h3 i a b, by omega⟩⟩
theorem EntAt.same (h : EntAt w Fr v l) (hb : Below w.heap.size w w') : EntAt w' Fr v l := by
 obtain ⟨lo, hi, h1, h2, h3⟩ := h; exact ⟨lo, hi, h1.below (hb.mono h2), Nat.le_trans h2 hb.size, h3⟩
theorem EntAt.own {lo : Nat} (h : w.ownsRow lo 5 1 v l.length (bytesV l)) : EntAt w (fun i => v.ownBlock = some i) v l := by
 rcases h.2 with ⟨rfl, h0⟩ | ⟨g, cap, cur, rfl, h1, h2, h3, h4, h5, h6⟩
 · obtain rfl := List.eq_nil_of_length_eq_zero h0
   exact ⟨0, 0, BytesAt.nil _ _ _, Nat.zero_le _, fun i _ hi => absurd hi (Nat.not_lt_zero i)⟩
 · refine ⟨g, g + 1, ?_, (Array.getElem?_eq_some_iff.1 h2).1, fun i a b => ?_⟩
   · refine ⟨h.1, _, _, rfl, h3, h4, fun _ => ⟨g, 0, rfl, Nat.le_refl _, Nat.lt_succ_self _, fun j hj => ?_⟩⟩
     rw [Nat.zero_add, h.cellAt j hj]
   · show some g = some i
     congr 1
     omega
theorem Ents.len : ∀ {vs : List Value} {ls : List (List UInt8)}, Ents w Fr vs ls → vs.length = ls.length
 | [], [], _ => rfl
 | _ :: _, _ :: _, h => by rw [List.length_cons, List.length_cons, h.2.len]
theorem Ents.mono (hF : ∀ i, Fr i → Fr' i) : ∀ {vs : List Value} {ls : List (List UInt8)}, Ents w Fr vs ls → Ents w Fr' vs ls
 | [], [], _ => trivial
 | _ :: _, _ :: _, h => ⟨h.1.mono hF, h.2.mono hF⟩
theorem Ents.kept (hk : Kept Fr w w') : ∀ {vs : List Value} {ls : List (List UInt8)}, Ents w Fr vs ls → Ents w' Fr vs ls
 | [], [], _ => trivial
 | _ :: _, _ :: _, h => ⟨h.1.kept hk, h.2.kept hk⟩
theorem Ents.same (hb : Below w.heap.size w w') : ∀ {vs : List Value} {ls : List (List UInt8)}, Ents w Fr vs ls → Ents w' Fr vs ls
 | [], [], _ => trivial
 | _ :: _, _ :: _, h => ⟨h.1.same hb, h.2.same hb⟩
theorem Ents.lt : ∀ {vs : List Value} {ls : List (List UInt8)}, Ents w Fr vs ls → Ents w (fun i => Fr i ∧ i < w.heap.size) vs ls
 | [], [], _ => trivial
 | _ :: _, _ :: _, h => ⟨h.1.lt, h.2.lt⟩
theorem Ents.snoc : ∀ {vs : List Value} {ls : List (List UInt8)}, Ents w Fr vs ls → EntAt w Fr v l → Ents w Fr (vs ++ [v]) (ls ++ [l])
 | [], [], _, h => ⟨h, trivial⟩
 | _ :: _, _ :: _, h, k => ⟨h.1, h.2.snoc k⟩
theorem Ents.get : ∀ {vs : List Value} {ls : List (List UInt8)}, Ents w Fr vs ls → ∀ (i : Nat) (h : i < ls.length), ∃ v, vs[i]? = some v ∧ EntAt w Fr v ls[i]
 | [], [], _, _, hi => (Nat.not_lt_zero _ hi).elim
 | v :: _, l :: _, h, 0, _ => ⟨v, rfl, h.1⟩
 | _ :: _, _ :: ls, h, i + 1, hi => by
   obtain ⟨v, h1, h2⟩ := h.2.get i (by simpa using hi); exact ⟨v, by simpa using h1, by simpa using h2⟩
end
def lenV : Value → Nat
 | .slice _ n _ => n
 | _ => 0
theorem slice_info : (Tryz.prog.info? 35).map (fun i => (i.zero, i.size, i.bytes)) = some (some vN, 1, 24) := by kernel_rfl
theorem onFrom {w : World} {lo B k n c p o : Nat} {l : List UInt8} (h : BytesAt w lo B (.slice (some ⟨p, o, none⟩) n c) l) (hk : k ≤ l.length) : BytesAt w lo B (.slice (if c = k then some ⟨p, o, none⟩ else some ⟨p, o + k, none⟩) (n - k) (c - k)) (l.drop k) := by
 have hn : n = l.length := by
   obtain ⟨A', c', e, _⟩ := h.at_
   cases e; rfl
 subst hn; have := Sl.onFrom (k := k) h hk; unfold BytesAt; rw [List.length_drop]; have e : bytesV (l.drop k) = (bytesV l).drop (k * 1) := by simp [bytesV]
 rw [e]; simpa using this
theorem or_byte3 {u : Nat} (c : UInt8) (hu : u < 16777216) : bits .or .i64 ((u : Int) * 256) (c.toNat : Int) = ((u * 256 + c.toNat : Nat) : Int) := by
 have hc := c.toNat_lt; have e : (u : Int) * 256 = ((u * 256 : Nat) : Int) := by omega
 rw [e]
 have hor : u * 256 ||| c.toNat = u * 256 + c.toNat := by
   have := Nat.two_pow_add_eq_or_of_lt (i := 8) (b := c.toNat) (by omega) u; rw [show (2 : Nat) ^ 8 = 256 by rfl] at this; rw [Nat.mul_comm u 256]; exact this.symm
 generalize c.toNat = q at *
 have h1 : (BitVec.ofInt 64 ((u * 256 : Nat) : Int)).toNat = u * 256 := by
   rw [BitVec.ofInt_natCast, BitVec.toNat_ofNat]; exact Nat.mod_eq_of_lt (by omega)
 have h2 : (BitVec.ofInt 64 (q : Int)).toNat = q := by
   rw [BitVec.ofInt_natCast, BitVec.toNat_ofNat]; exact Nat.mod_eq_of_lt (by omega)
 show IntKind.i64.wrap ((BitVec.ofInt 64 ((u * 256 : Nat) : Int) ||| BitVec.ofInt 64 (q : Int)).toNat : Int) = _; rw [BitVec.toNat_or, h1, h2, hor, IntKind.wrap_i64]; omega
theorem entries_calls (l : List UInt8) (v : Value) (w : World) (lo hi : Nat) (hI : BytesAt w lo hi v l) (hhi : hi ≤ w.heap.size) (hl : l.length ≤ 600000) :
   Calls Tryz.prog 162 #[v] w fun e w' => (∃ ev vs, e = .returned ev ∧ w'.ownsRow w.heap.size 35 1 ev vs.length vs ∧ Ents w' (fun i => lo ≤ i ∧ i < hi) vs (entP l)) ∧ Below w.heap.size w w' := by
 obtain ⟨i0, hi0, hz0, hz1, hz2⟩ := inf3 slice_info
 go_enter Tryz.func162, Tryz.ntmps162
 go_wp2
 go_loopw [0, 3, 4, 6] (fun bv o _ _ wr => ∃ (r : List UInt8) (es : List (List UInt8)) (vs : List Value), BytesAt wr lo hi bv r ∧ r.length ≤ l.length ∧ es ++ entP r = entP l ∧ wr.ownsRow w.heap.size 35 1 o vs.length vs ∧ Ents wr (fun i => lo ≤ i ∧ i < hi) vs es ∧ vs.length + r.length ≤ 600000 ∧ Below w.heap.size w wr) (fun bv _ _ _ _ => lenV bv)
 case atStart => exact ⟨l, [], [], hI, Nat.le_refl _, rfl, World.ownsRow_nil _ _ _ _, trivial, by simpa using hl, Below.refl _ _⟩
 case round =>
   obtain ⟨r, es, vs, hb, hrl, hes, hown, hE, hvl, hB⟩ := hrel; obtain ⟨A, c, rfl, hc1, hc2⟩ := hb.form; unfold maxLen at hc2
   by_cases h3 : r.length < 3
   · have hd : decide ((r.length : Int) ≥ 3) = false := by simp; omega
     rw [entP_short h3, List.append_nil] at hes; rw [hes] at hE; obtain ⟨Ao, co, rfl, -⟩ := (Sl.of_own hown).at_; go_wp2; go_ret
     first | exact ⟨⟨_, rfl, vs, hown, hE⟩, hB⟩ | exact ⟨⟨_, vs, rfl, hown, hE⟩, hB⟩
   · have hd : decide ((r.length : Int) ≥ 3) = true := by simp; omega
     have HG := hdd (fun k (hk : k < r.length) => hb.cellAt (j := k) hk); obtain ⟨p, o, hA, -⟩ := HG.out 0 (by omega); subst hA
     have HC := hdd (fun k (hk : k < r.length) => show wr.cell? ⟨p, o + k, none⟩ = some (.int .u8 ((r.getD k 0).toNat : Int)) by
       obtain ⟨p', o', e, h1, h2, h3⟩ := HG.out k hk
       cases e
       rw [h3, List.getD_eq_getElem?_getD, List.getElem?_eq_getElem hk]
       rfl)
     have HF3 := hdd (onFrom hb (k := 3) (by omega)); have H3 := hdd h3; have HES := hdd hes; have HB0 := hdd hb; have k1 : (3 : Int) ≤ (c : Int) := by omega
     have k2 : (3 : Int) ≤ (r.length : Int) := by omega
     have k3 : (r.length : Int) ≤ (c : Int) := by omega
     clear h3 hes HG hb; go_wp2
     go_loop [4, 6, 13] (fun u _ i => ∃ k : Nat, k ≤ 3 ∧ i = vI k ∧ u = vI (be (r.take k))) (fun _ _ i => 3 - (intOf i).toNat)
     case atStart => exact ⟨0, by omega, rfl, rfl⟩
     case round =>
       obtain ⟨k, hk, rfl, rfl⟩ := hrel
       by_cases hlt : k < 3
       · have h3' := H3.out
         have hcell := HC.out k (by omega)
         have hub : be (r.take k) < 65536 := by
           have h1 := beF_lt (r.take k); have h2 : 256 ^ (r.take k).length ≤ 256 ^ 2 := Nat.pow_le_pow_right (by omega) (by rw [List.length_take]; omega); omega
         have HS := hdd (show be (r.take (k + 1)) = be (r.take k) * 256 + (r.getD k 0).toNat by rw [List.take_succ_eq_append_getElem (by omega), be_snoc, List.getD_eq_getElem?_getD, List.getElem?_eq_getElem (by omega)]; rfl); have hq : (r.getD k 0).toNat < 256 := (r.getD k 0).toNat_lt; have hor := or_byte3 (r.getD k 0) (show be (r.take k) < 16777216 by omega); generalize be (r.take k) = u at *; generalize (r.getD k 0).toNat = q at *; go_wp2
         go_round
         case rel => exact ⟨k + 1, by omega, by go_num, by rw [HS.out]; go_num⟩
         case measure => simp [intOf]; omega
       · obtain rfl : k = 3 := by omega
         have hub : be (r.take 3) < 16777216 := by
           have h1 := beF_lt (r.take 3); have h2 : 256 ^ (r.take 3).length ≤ 256 ^ 3 := Nat.pow_le_pow_right (by omega) (by rw [List.length_take]; omega); omega
         have HEM := hdd (entP_more (b := r) H3.out); have HEB := hdd (entP_bad (b := r) H3.out); generalize be (r.take 3) = n at *; have hes := HES.out
         by_cases hbad : n > 65536 ∨ n > (r.drop 3).length
         · rw [HEB.out hbad, List.append_nil] at hes
           rw [hes] at hE; obtain ⟨Ao, co, rfl, -⟩ := (Sl.of_own hown).at_; rw [List.length_drop] at hbad
           have hq : decide ((n : Int) > 65536) = true ∨ (decide ((n : Int) > 65536) = false ∧ decide (r.length - 3 < n) = true) := by
             by_cases h1 : n > 65536
             · exact .inl (by simp; omega)
             · exact .inr ⟨by simp; omega, by simp; omega⟩
           clear hbad HEM HEB hes HES
           by_cases hcc : c = 3
           · subst hcc
             have hr3 : r.length - 3 = 0 := by omega
             rw [hr3] at hq; rcases hq with q1 | ⟨q1, q2⟩
             all_goals
               go_wp2; go_ret
               first | exact ⟨⟨_, rfl, vs, hown, hE⟩, hB⟩ | exact ⟨⟨_, vs, rfl, hown, hE⟩, hB⟩
           · rcases hq with q1 | ⟨q1, q2⟩
             all_goals
               go_wp2; go_ret
               first | exact ⟨⟨_, rfl, vs, hown, hE⟩, hB⟩ | exact ⟨⟨_, vs, rfl, hown, hE⟩, hB⟩
         · rw [HEM.out hbad] at hes
           rw [List.length_drop] at hbad; have q1 : decide ((n : Int) > 65536) = false := by simp; omega
           have q2 : decide (r.length - 3 < n) = false := by simp; omega
           have k4 : (0 : Int) ≤ (n : Int) := by omega
           have k5 : (n : Int) ≤ ((c - 3 : Nat) : Int) := by omega
           have k6 : (n : Int) ≤ ((r.length - 3 : Nat) : Int) := by omega
           have k7 : ((r.length - 3 : Nat) : Int) ≤ ((c - 3 : Nat) : Int) := by omega
           clear HEM HEB HES; have hs1 := hB.size; have HE := hdd hE; have HES2 := hdd hes
           by_cases hcc : c = 3
           · subst hcc
             obtain rfl : n = 0 := by omega
             have hr3 : r.length - 3 = 0 := by omega
             have hf3 := HF3.out; rw [if_pos rfl, hr3, Nat.sub_self] at hf3; have HNEW := hdd (BytesAt.clip (upto hf3 (k := 0) (by omega))); have HREST := hdd (onFrom hf3 (k := 0) (by omega)); rw [if_pos rfl, Nat.sub_self] at HREST; clear hf3 HF3 hE hes hbad
             go_wp2_with (at_builtin
                          refine wpList_append_sl _ rfl (.tmp 33) (.tmp 38) _ rfl w.heap.size 35 i0 _ 1 24 Tryz.underlying162 hi0 hz0 hz1 hz2 rfl (by omega) u3 vs.length vs rfl (hown.alloc _) wr.heap.size (wr.heap.size + 1) _ 1 [.slice (some ⟨p, o, none⟩) 0 0] rfl (Sl.new wr #[.slice (some ⟨p, o, none⟩) 0 0] 35 (n := 1) rfl (by unfold maxLen; omega)) (by simp [Value.oneCell']) (by unfold maxLen; omega) (by omega) (by simp; omega) ?_; intro v1 w5 hv1 hg1 hat1)
             have hgo := (World.grownBy_alloc wr (.cells #[.slice (some ⟨p, o, none⟩) 0 0] 35) u3.ownBlock).trans hg1; have hB5 := hB.grown hgo hB.size (fun g hg => (hown.lt g hg).1); have hK5 : Kept (fun i => lo ≤ i ∧ i < hi) wr w5 := Kept.of_grown hgo fun i hi2 => ⟨by omega, fun e => by have := (hown.lt i e.symm).1; omega⟩
             go_roundw
             case rel => exact ⟨(r.drop 3).drop 0, es ++ [(r.drop 3).take 0], vs ++ [.slice (some ⟨p, o, none⟩) 0 0], hK5.sl HREST.out (fun i a b => ⟨a, b⟩), by simp; omega, by rw [List.append_assoc]; exact HES2.out, by rw [List.length_append]; exact hv1, (HE.out.snoc ⟨lo, hi, HNEW.out, by omega, fun i a b => ⟨a, b⟩⟩).kept hK5, by simp; omega, hB5⟩
             case measure => simp [lenV]; omega
           · have hf3 := HF3.out
             rw [if_neg hcc] at hf3; have hl3 : (r.drop 3).length = r.length - 3 := List.length_drop; have HNEW := hdd (BytesAt.clip (upto hf3 (k := n) (by omega))); have HREST := hdd (onFrom hf3 (k := n) (by omega)); clear hf3 HF3 hE hes hbad
             by_cases hcn : c - 3 = n
             · rw [if_pos hcn, show c - 3 - n = 0 by omega] at HREST
               go_wp2_with (at_builtin
                            refine wpList_append_sl _ rfl (.tmp 33) (.tmp 38) _ rfl w.heap.size 35 i0 _ 1 24 Tryz.underlying162 hi0 hz0 hz1 hz2 rfl (by omega) u3 vs.length vs rfl (hown.alloc _) wr.heap.size (wr.heap.size + 1) _ 1 [.slice (some ⟨p, o + 3, none⟩) n n] rfl (Sl.new wr #[.slice (some ⟨p, o + 3, none⟩) n n] 35 (n := 1) rfl (by unfold maxLen; omega)) (by simp [Value.oneCell']) (by unfold maxLen; omega) (by omega) (by simp; omega) ?_; intro v1 w5 hv1 hg1 hat1)
               have hgo := (World.grownBy_alloc wr (.cells #[.slice (some ⟨p, o + 3, none⟩) n n] 35) u3.ownBlock).trans hg1; have hB5 := hB.grown hgo hB.size (fun g hg => (hown.lt g hg).1); have hK5 : Kept (fun i => lo ≤ i ∧ i < hi) wr w5 := Kept.of_grown hgo fun i hi2 => ⟨by omega, fun e => by have := (hown.lt i e.symm).1; omega⟩
               go_roundw
               case rel => exact ⟨(r.drop 3).drop n, es ++ [(r.drop 3).take n], vs ++ [.slice (some ⟨p, o + 3, none⟩) n n], hK5.sl HREST.out (fun i a b => ⟨a, b⟩), by simp; omega, by rw [List.append_assoc]; exact HES2.out, by rw [List.length_append]; exact hv1, (HE.out.snoc ⟨lo, hi, HNEW.out, by omega, fun i a b => ⟨a, b⟩⟩).kept hK5, by simp; omega, hB5⟩
               case measure => simp [lenV]; omega
             · rw [if_neg hcn] at HREST
               go_wp2_with (at_builtin
                            refine wpList_append_sl _ rfl (.tmp 33) (.tmp 38) _ rfl w.heap.size 35 i0 _ 1 24 Tryz.underlying162 hi0 hz0 hz1 hz2 rfl (by omega) u3 vs.length vs rfl (hown.alloc _) wr.heap.size (wr.heap.size + 1) _ 1 [.slice (some ⟨p, o + 3, none⟩) n n] rfl (Sl.new wr #[.slice (some ⟨p, o + 3, none⟩) n n] 35 (n := 1) rfl (by unfold maxLen; omega)) (by simp [Value.oneCell']) (by unfold maxLen; omega) (by omega) (by simp; omega) ?_; intro v1 w5 hv1 hg1 hat1)
               have hgo := (World.grownBy_alloc wr (.cells #[.slice (some ⟨p, o + 3, none⟩) n n] 35) u3.ownBlock).trans hg1; have hB5 := hB.grown hgo hB.size (fun g hg => (hown.lt g hg).1); have hK5 : Kept (fun i => lo ≤ i ∧ i < hi) wr w5 := Kept.of_grown hgo fun i hi2 => ⟨by omega, fun e => by have := (hown.lt i e.symm).1; omega⟩
               go_roundw
               case rel => exact ⟨(r.drop 3).drop n, es ++ [(r.drop 3).take n], vs ++ [.slice (some ⟨p, o + 3, none⟩) n n], hK5.sl HREST.out (fun i a b => ⟨a, b⟩), by simp; omega, by rw [List.append_assoc]; exact HES2.out, by rw [List.length_append]; exact hv1, (HE.out.snoc ⟨lo, hi, HNEW.out, by omega, fun i a b => ⟨a, b⟩⟩).kept hK5, by simp; omega, hB5⟩
               case measure => simp [lenV]; omega
end
end Wa
namespace Tp
section
open Go.RowKit Go.Maps
open Ce
structure As where
 at_ : World → (Nat → Prop) → Prop
 kept : ∀ w w' X, at_ w X → Kept X w w' → at_ w' X
 lt : ∀ w X, at_ w X → ∀ i, X i → i < w.heap.size
def Sep : List As → World → (Nat → Prop) → Prop
 | [], _, X => ∀ i, ¬ X i
 | p :: r, w, X => ∃ A B, p.at_ w A ∧ Sep r w B ∧ (∀ i, A i → ¬ B i) ∧ ∀ i, X i ↔ A i ∨ B i
theorem Sep.kept {w w' : World} : ∀ {l : List As} {X : Nat → Prop}, Sep l w X → Kept X w w' → Sep l w' X
 | [], _, h, _ => h
 | p :: r, X, ⟨A, B, hA, hB, hd, hx⟩, hk => ⟨A, B, p.kept _ _ _ hA (hk.mono fun i hi => (hx i).2 (.inl hi)), Sep.kept hB (hk.mono fun i hi => (hx i).2 (.inr hi)), hd, hx⟩
theorem Sep.lt {w : World} : ∀ {l : List As} {X : Nat → Prop}, Sep l w X → ∀ i, X i → i < w.heap.size
 | [], _, h, i, hi => absurd hi (h i)
 | p :: r, X, ⟨A, B, hA, hB, _, hx⟩, i, hi => ((hx i).1 hi).elim (p.lt _ _ hA i) (Sep.lt hB i)
theorem Sep.swap {w : World} {p q : As} {r : List As} {X : Nat → Prop} (h : Sep (p :: q :: r) w X) : Sep (q :: p :: r) w X := by
 obtain ⟨A, B, hA, ⟨C, D, hC, hD, hcd, hb⟩, hd, hx⟩ := h; refine ⟨C, fun i => A i ∨ D i, hC, ⟨A, D, hA, hD, fun i ha hdd => hd i ha ((hb i).2 (.inr hdd)), fun i => Iff.rfl⟩, ?_, ?_⟩
 · rintro i hc (ha | hdd)
   · exact hd i ha ((hb i).2 (.inl hc))
   · exact hcd i hc hdd
 · intro i
   rw [hx i, hb i]
   constructor
   · rintro (h | h | h)
     · exact .inr (.inl h)
     · exact .inl h
     · exact .inr (.inr h)
   · rintro (h | h | h)
     · exact .inr (.inl h)
     · exact .inl h
     · exact .inr (.inr h)
theorem Sep.front {w : World} : ∀ {l : List As} {X : Nat → Prop} {k : Nat} {p : As}, Sep l w X → l[k]? = some p → Sep (p :: l.eraseIdx k) w X
 | [], _, _, _, _, hk => by simp at hk
 | q :: r, X, 0, p, h, hk => by
     obtain rfl : q = p := by simpa using hk
     exact h
 | q :: r, X, k + 1, p, h, hk => by
     obtain ⟨A, B, hA, hB, hd, hx⟩ := h; exact Sep.swap ⟨A, B, hA, Sep.front hB (by simpa using hk), hd, hx⟩
theorem Sep.append {w : World} : ∀ {l r : List As} {A B X : Nat → Prop}, Sep l w A → Sep r w B → (∀ i, A i → ¬ B i) → (∀ i, X i ↔ A i ∨ B i) → Sep (l ++ r) w X
 | [], r, A, B, X, hA, hB, _, hx => by
     have e : X = B := funext fun i => propext ((hx i).trans ⟨fun h => h.elim (fun h => absurd h (hA i)) id, .inr⟩)
     exact e ▸ hB
 | p :: l, r, A, B, X, ⟨C, D, hC, hD, hcd, ha⟩, hB, hd, hx => by
     refine ⟨C, fun i => D i ∨ B i, hC, Sep.append hD hB (fun i h => hd i ((ha i).2 (.inr h))) (fun i => Iff.rfl), ?_, ?_⟩
     · rintro i hc (h | h)
       · exact hcd i hc h
       · exact hd i ((ha i).2 (.inl hc)) h
     · intro i
       rw [hx i, ha i, or_assoc]
theorem Sep.split {w : World} : ∀ {l r : List As} {X : Nat → Prop}, Sep (l ++ r) w X → ∃ A B, Sep l w A ∧ Sep r w B ∧ (∀ i, A i → ¬ B i) ∧ ∀ i, X i ↔ A i ∨ B i
 | [], r, X, h => ⟨fun _ => False, X, fun _ h => h, h, fun _ h => h.elim, fun i => by simp⟩
 | p :: l, r, X, ⟨C, D, hC, hD, hcd, hx⟩ => by
     obtain ⟨A, B, hA, hB, hab, hd⟩ := Sep.split hD; refine ⟨fun i => C i ∨ A i, B, ⟨C, A, hC, hA, fun i h k => hcd i h ((hd i).2 (.inl k)), fun i => Iff.rfl⟩, hB, ?_, ?_⟩
     · rintro i (h | h) k
       · exact hcd i h ((hd i).2 (.inr k))
       · exact hab i h k
     · intro i
       rw [hx i, hd i, or_assoc]
def sepA (l : List As) : As := ⟨fun w X => Sep l w X, fun _ _ _ h hk => h.kept hk, fun _ _ h => h.lt⟩
def exA {α : Type} (P : α → As) : As := ⟨fun w X => ∃ x, (P x).at_ w X, fun _ _ _ ⟨x, h⟩ hk => ⟨x, (P x).kept _ _ _ h hk⟩, fun _ _ ⟨x, h⟩ => (P x).lt _ _ h⟩
def factA (f : Prop) (P : As) : As := ⟨fun w X => f ∧ P.at_ w X, fun _ _ _ ⟨x, h⟩ hk => ⟨x, P.kept _ _ _ h hk⟩, fun _ _ ⟨_, h⟩ => P.lt _ _ h⟩
def noA : As := ⟨fun _ X => ∀ i, ¬ X i, fun _ _ _ h _ => h, fun _ _ h i hi => absurd hi (h i)⟩
def St (l : List As) (w : World) : Prop := ∃ X, Sep l w X
section
variable {w w' : World} {l r : List As} {p q : As}
theorem St.front (h : St l w) (k : Nat) (hk : l[k]? = some p) : St (p :: l.eraseIdx k) w := h.imp fun _ hx => hx.front hk
theorem St.at_ (h : St l w) (k : Nat) (hk : l[k]? = some p) : ∃ X, p.at_ w X := by
 obtain ⟨X, A, B, hA, _⟩ := h.front k hk; exact ⟨A, hA⟩
theorem St.flat (h : St (sepA l :: r) w) : St (l ++ r) w := by
 obtain ⟨X, A, B, hA, hB, hd, hx⟩ := h; exact ⟨X, Sep.append hA hB hd hx⟩
theorem St.fold (h : St (l ++ r) w) : St (sepA l :: r) w := by
 obtain ⟨X, h⟩ := h; obtain ⟨A, B, hA, hB, hd, hx⟩ := h.split; exact ⟨X, A, B, hA, hB, hd, hx⟩
theorem St.ex {α : Type} {P : α → As} (h : St (exA P :: r) w) : ∃ x, St (P x :: r) w := by
 obtain ⟨X, A, B, ⟨x, hA⟩, hB, hd, hx⟩ := h; exact ⟨x, X, A, B, hA, hB, hd, hx⟩
theorem St.pack {α : Type} {P : α → As} (x : α) (h : St (P x :: r) w) : St (exA P :: r) w := by
 obtain ⟨X, A, B, hA, hB, hd, hx⟩ := h; exact ⟨X, A, B, ⟨x, hA⟩, hB, hd, hx⟩
theorem St.fact {f : Prop} (h : St (factA f p :: r) w) : f ∧ St (p :: r) w := by
 obtain ⟨X, A, B, ⟨x, hA⟩, hB, hd, hx⟩ := h; exact ⟨x, X, A, B, hA, hB, hd, hx⟩
theorem St.facted {f : Prop} (x : f) (h : St (p :: r) w) : St (factA f p :: r) w := by
 obtain ⟨X, A, B, hA, hB, hd, hx⟩ := h; exact ⟨X, A, B, ⟨x, hA⟩, hB, hd, hx⟩
theorem St.cut (h : St (p :: r) w) : ∃ A, p.at_ w A ∧ ∀ w' (q : As) (A' : Nat → Prop), q.at_ w' A' → (∀ i, A' i → A i ∨ w.heap.size ≤ i) → Kept (fun i => i < w.heap.size ∧ ¬ A i) w w' → St (q :: r) w' := by
 obtain ⟨X, A, B, hA, hB, hd, hx⟩ := h; refine ⟨A, hA, fun w' q A' hq ha hk => ⟨fun i => A' i ∨ B i, A', B, hq, hB.kept (hk.mono fun i hi => ⟨hB.lt i hi, fun ha => hd i ha hi⟩), ?_, fun i => Iff.rfl⟩⟩; intro i h1 h2; rcases ha i h1 with h | h
 · exact hd i h h2
 · have := hB.lt i h2; omega
theorem St.cut2 (h : St (p :: q :: r) w) : ∃ A B, p.at_ w A ∧ q.at_ w B ∧ (∀ i, A i → ¬ B i) ∧ ∀ w' (p' : As) (A' : Nat → Prop), p'.at_ w' A' → (∀ i, A' i → A i ∨ w.heap.size ≤ i) → Kept (fun i => i < w.heap.size ∧ ¬ A i) w w' → St (p' :: q :: r) w' := by
 obtain ⟨X, A, B, hA, ⟨C, D, hC, hD, hcd, hb⟩, hd, hx⟩ := h; obtain ⟨A', hA', hc⟩ := St.cut (w := w) (p := p) (r := q :: r) ⟨X, A, B, hA, ⟨C, D, hC, hD, hcd, hb⟩, hd, hx⟩; refine ⟨A, C, hA, hC, fun i ha hc => hd i ha ((hb i).2 (.inl hc)), fun w' p' A' hp ha hk => ?_⟩; have hB : Sep (q :: r) w B := ⟨C, D, hC, hD, hcd, hb⟩; refine ⟨fun i => A' i ∨ B i, A', B, hp, hB.kept (hk.mono fun i hi => ⟨hB.lt i hi, fun ha => hd i ha hi⟩), ?_, fun i => Iff.rfl⟩; intro i h1 h2; rcases ha i h1 with h | h
 · exact hd i h h2
 · have := hB.lt i h2; omega
theorem St.same (h : St l w) (hb : Below w.heap.size w w') : St l w' := by
 obtain ⟨X, hX⟩ := h; exact ⟨X, hX.kept (Kept.of_below hb hX.lt)⟩
theorem St.alloc (h : St l w) (o : Obj) : St l (w.alloc o) := h.same ((Below.refl _ w).alloc (Nat.le_refl _) o)
theorem St.drew (h : St l w) : St l w.drew := h.same (Below.refl _ w).drew
theorem St.born {A : Nat → Prop} (h : St r w) (hb : Below w.heap.size w w') (hp : p.at_ w' A) (hA : ∀ i, A i → w.heap.size ≤ i) : St (p :: r) w' := by
 obtain ⟨X, hX⟩ := h; refine ⟨fun i => A i ∨ X i, A, X, hp, hX.kept (Kept.of_below hb hX.lt), ?_, fun i => Iff.rfl⟩; intro i h1 h2; have := hA i h1; have := hX.lt i h2; omega
theorem St.drop (h : St (p :: r) w) : St r w := by
 obtain ⟨X, A, B, hA, hB, hd, hx⟩ := h; exact ⟨B, hB⟩
theorem St.turn (h : St (p :: r) w) (hpq : ∀ A, p.at_ w A → q.at_ w A) : St (q :: r) w := by
 obtain ⟨X, A, B, hA, hB, hd, hx⟩ := h; exact ⟨X, A, B, hpq A hA, hB, hd, hx⟩
theorem St.no (h : St r w) : St (noA :: r) w := h.born (Below.refl _ w) (A := fun _ => False) (fun _ h => h) fun _ h => h.elim
end
def ObA (b : Nat) (t : TypeId) (cs : Array Value) : As :=
 ⟨fun w X => Ob w b t cs ∧ ∀ i, X i ↔ i = b, fun _ _ _ h hk => ⟨hk.ob h.1 ((h.2 b).2 rfl), h.2⟩, fun _ _ h i hi => by rw [(h.2 i).1 hi]; exact h.1.lt⟩
def OldA (w0 : World) : As :=
 ⟨fun w X => Below w0.heap.size w0 w ∧ ∀ i, X i ↔ i < w0.heap.size, fun _ _ _ h hk => ⟨h.1.trans ⟨hk.os, hk.tape, hk.output, hk.size, fun k hk' => hk.block k ((h.2 k).2 hk')⟩, h.2⟩,
   fun _ _ h i hi => Nat.lt_of_lt_of_le ((h.2 i).1 hi) h.1.size⟩
def SlA (size : Nat) (v : Value) (n : Nat) (xs : List Value) : As :=
 ⟨fun w X => (∃ lo hi, Sl w lo hi size v n xs ∧ hi ≤ w.heap.size ∧ ∀ i, lo ≤ i → i < hi → X i) ∧ ∀ i, X i → i < w.heap.size,
   fun _ _ _ ⟨⟨lo, hi, h1, h2, h3⟩, h4⟩ hk => ⟨⟨lo, hi, hk.sl h1 h3, Nat.le_trans h2 hk.size, h3⟩, fun i hi => Nat.lt_of_lt_of_le (h4 i hi) hk.size⟩, fun _ _ h => h.2⟩
def RowA (e : TypeId) (size : Nat) (v : Value) (n : Nat) (xs : List Value) : As :=
 ⟨fun w X => w.ownsRow 0 e size v n xs ∧ ∀ i, X i ↔ v.ownBlock = some i,
   fun _ _ _ h hk => ⟨by
     refine ⟨h.1.1, ?_⟩; rcases h.1.2 with q | ⟨g, cap, cur, q1, q2, q3, q4⟩
     · exact .inl q
     · exact .inr ⟨g, cap, cur, q1, q2, (hk.block g ((h.2 g).2 (by rw [q1]; rfl))).trans q3, q4⟩, h.2⟩,
   fun w X h i hi => by
     have hi := (h.2 i).1 hi; rcases h.1.2 with q | ⟨g, cap, cur, q1, q2, q3, q4⟩
     · rw [q.1] at hi; simp [Value.ownBlock] at hi
     · rw [q1] at hi
       obtain rfl : g = i := by simpa [Value.ownBlock] using hi
       exact (Array.getElem?_eq_some_iff.1 q3).1⟩
def MapA {κ : Type} [DecidableEq κ] (K : KeyK κ) (t : TypeId) (b : Nat) (m : List (κ × Value)) : As :=
 ⟨fun w X => GMap K w Tryz.prog t b m ∧ ∀ i, X i ↔ i = b, fun w w' _ h hk => by
   obtain ⟨⟨es, clock, h1, F, h2, e⟩, h3⟩ := h; exact ⟨⟨es, clock, (hk.block b ((h3 b).2 rfl)).trans h1, F, h2, e⟩, h3⟩, fun _ _ h i hi => by rw [(h.2 i).1 hi]; exact h.1.lt⟩
end
end Tp
end Go.Proofs.YtgcnhmjpfbbfcaaGreat
