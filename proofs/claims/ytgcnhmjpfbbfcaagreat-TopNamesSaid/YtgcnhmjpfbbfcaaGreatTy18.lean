/-
  part of the proof of TopNames.
-/
import Derived.Test.YtgcnhmjpfbbfcaaGreatTy11
set_option linter.unusedVariables false
set_option linter.unusedSimpArgs false
set_option maxRecDepth 100000
set_option maxHeartbeats 8000000
namespace Go.Proofs.YtgcnhmjpfbbfcaaGreat
namespace KsT
section
open Go.RowKit Go.Maps Go.Sort Go.Shelf
theorem sorts (m : Nat) : AnyZ.SortsIn Tryz.prog Tryz.sorted156_ren Fence.wide m :=
 ⟨fun blk off cap ss W hH hblk hsz => callsIn_wide.2 (AnyM.slices_Sort_string Tryz.sort212 blk off cap ss W hH hblk hsz),
  fun p cap W => callsIn_wide.2 (AnyM.slices_Sort_string_none Tryz.sort212 p cap W)⟩
theorem keys_calls (mb : Option Nat) (W : World) : CallsIn Fence.wide 5 Tryz.prog 210 #[.map mb] W fun e w' => e = .returned (.func (.func 276) #[] #[.pointer (some ⟨W.heap.size, 0, none⟩)]) ∧ w' = W.alloc (.cells #[.map mb] 133) :=
 AnyZ.keys_in Tryz.keys210 Fence.wide 5 trivial rfl mb W
theorem sorted_raw {H : Type} (b nn : Nat) (D0 : DataW H) (R : Value → Option (DataW H × List MemPlace)) (w : World) (hown : w.ownsMap Tryz.prog 9 R b nn D0) (hmax : Maps.size D0 ≤ maxLen) (hbytes : Maps.size D0 * 16 ≤ 140737488355328) :
   CallsIn Fence.wide 5 Tryz.prog 156 #[.func (.func 276) #[] #[.pointer (some ⟨w.heap.size, 0, none⟩)]] (w.alloc (.cells #[.map (some b)] 133)) fun e w' => ∃ (v : Value) (ss : List (List UInt8)), e = .returned v ∧ ss.Perm (strKeys D0) ∧
     w'.ownsRow (w.alloc (.cells #[.map (some b)] 133)).heap.size 9 1 v ss.length ((ss.mergeSort (fun x y => decide (x ≤ y))).map encStr) ∧ (v = .slice none 0 0 ↔ ss = []) ∧ Below (w.alloc (.cells #[.map (some b)] 133)).heap.size (w.alloc (.cells #[.map (some b)] 133)) w' := by
 have hbl := hown.lt
 have hseq : SeqGives Fence.wide 2 Tryz.prog 276 #[.pointer (some ⟨w.heap.size, 0, none⟩)] encStr (fun ss => ss.Perm (strKeys D0)) (Maps.size D0) (w.alloc (.cells #[.map (some b)] 133)) :=
   AnyZ.keys_gives (ρ := Tryz.keys210_ren) { Tryz.keys210 with } Fence.wide _ trivial rfl (by omega) w.heap.size b nn D0 _ (by simp) (by simp) (by
     obtain ⟨es, clock, hb, Ft, hs, hD⟩ := hown; exact ⟨es, clock, (Below.heap_alloc _ _ b hbl).trans hb, Ft, hs, hD⟩)
 exact AnyZ.sorted_in Tryz.sorted156 Fence.wide 5 trivial trivial trivial trivial rfl (by omega) (sorts _) (enters_of Tryz.func212 (by kernel_rfl) rfl) 276 #[.pointer (some ⟨w.heap.size, 0, none⟩)] trivial (enters_of Tryz.func276 (by kernel_rfl) rfl) _ _ hmax hbytes _ hseq
theorem bb_lt : ∀ a b : List UInt8, bytesBefore a b = true → a < b
 | [], [], h => by cases h
 | [], _ :: _, _ => List.nil_lt_cons _ _
 | _ :: _, [], h => by cases h
 | a :: r, b :: s, h => by
   unfold bytesBefore at h; rw [List.cons_lt_cons_iff]; simp only [Bool.or_eq_true, decide_eq_true_eq, Bool.and_eq_true, beq_iff_eq] at h; rcases h with h | ⟨h, h2⟩
   · exact .inl h
   · exact .inr ⟨h, bb_lt r s h2⟩
theorem strKeys_mEs (m : List (List UInt8 × Value)) : strKeys (DataW.map (mEs strK m)) = m.map (·.1) := by
 simp [strKeys, mEs, Function.comp_def, strOf, strK]
theorem sorted_calls (b : Nat) (m : List (List UInt8 × Value)) (w : World) (hown : GMap strK w Tryz.prog 9 b m) (KK : Keyed Tryz.prog 9) (hmax : m.length ≤ 1099511627776) :
   CallsIn Fence.wide 5 Tryz.prog 156 #[.func (.func 276) #[] #[.pointer (some ⟨w.heap.size, 0, none⟩)]] (w.alloc (.cells #[.map (some b)] 133)) fun e w' => ∃ v : Value, e = .returned v ∧
     w'.ownsRow (w.alloc (.cells #[.map (some b)] 133)).heap.size 9 1 v (m.map (·.1)).length ((m.map (·.1)).map encStr) ∧ Below (w.alloc (.cells #[.map (some b)] 133)).heap.size (w.alloc (.cells #[.map (some b)] 133)) w' := by
 have hsort := hown.sorted KK; have hsz : Maps.size (DataW.map (mEs strK m)) = m.length := by simp [Maps.size, mEs]
 refine (sorted_raw b m.length (.map (mEs strK m)) hold w hown (by rw [hsz]; unfold maxLen; omega) (by rw [hsz]; omega)).mono ?_; rintro e w' ⟨v, ss, rfl, hp, hrow, -, hb⟩; rw [strKeys_mEs] at hp
 have hlt : (m.map (·.1)).Pairwise (· < ·) := by
   rw [List.pairwise_map]; exact hsort.imp (fun {p q} h => bb_lt _ _ h)
 have he : ss.mergeSort (fun x y => decide (x ≤ y)) = m.map (·.1) := by
   refine ((List.mergeSort_perm ss _).trans hp).eq_of_pairwise (le := fun a b : List UInt8 => a ≤ b) (fun a b _ _ h1 h2 => List.le_antisymm h1 h2) ?_ (hlt.imp (fun h => List.le_of_lt h)); have := List.pairwise_mergeSort (le := fun x y : List UInt8 => decide (x ≤ y)) (fun a b c h1 h2 => by simp only [decide_eq_true_eq] at *; exact List.le_trans h1 h2) (fun a b => by simp only [Bool.or_eq_true, decide_eq_true_eq]; exact List.le_total a b) ss; exact this.imp (fun h => by simpa using h)
 have hl : ss.length = (m.map (·.1)).length := hp.length_eq; rw [he, hl] at hrow; exact ⟨v, rfl, hrow, hb⟩
end
end KsT
namespace Sk
section
open Go.RowKit Go.Maps
open It Al Kp
attribute [local go_sem] Oper.semAt_some
def keysS (s : Stk) : List Key := s.map (·.1)
theorem StkAt.short {w : World} {base b mb : Nat} {s : Stk} (h : StkAt w base b mb s) : (keysS s).length ≤ 64 := by unfold keysS; rw [List.length_map]; exact h.len
theorem goods_calls (p : Value) (hp : p.oneCell' = true) (w : World) :
   Calls Tryz.prog 155 #[p] w fun e w' => e = .returned (.func (.func 209) #[] #[.pointer (some ⟨w.heap.size, 0, none⟩)]) ∧ w' = w.alloc (.cells #[p] 72) := by
 have hmf : ∀ (fn : Fn) (first cap : Array Value) (w : World), (Instr.makeFunc fn first cap).run Tryz.prog w = .ok (.func fn first cap) w := fun _ _ _ _ => rfl
 go_enter Tryz.func155, Tryz.ntmps155
 go_wp2; go_ret; exact ⟨rfl, rfl⟩
theorem goods_reads (n : Nat) (hn : 1 ≤ n) {w : World} {base b mb : Nat} {s : Stk} (Bs : Nat) (X : Nat → Prop) (h : StkAt w base b mb s) (hbs : Ob w Bs 72 #[.pointer (some ⟨b, 0, none⟩)]) (hxl : ∀ i, X i → i < w.heap.size) :
   Ro.Reads Fence.wide n Tryz.prog 209 #[.pointer (some ⟨Bs, 0, none⟩)] (fun (k : Key) (v : Value) (_ : World) => v = encStr k) (KpX X) (fun xs => xs = keysS s) (fun pre => pre <+: keysS s) (fun pre k => pre ++ [k] <+: keysS s) w := by
 intro l J Jx W hW hJ hJx hY h0; have hM := h.same hW; have hB := hbs.same hW; have cB : W.cell? ⟨Bs, 0, none⟩ = some (.pointer (some ⟨b, 0, none⟩)) := hB.k 0 rfl; have y0 := hM.ob.cell (j := 0) (v := .map (some mb)) rfl; have cMd := hdd (made_calls b mb W y0); have hkl := h.short; have cK := hdd (KsT.keys_calls (some mb) W); have cS := KsT.sorted_calls mb (gm rowV s) W hM.map keyedS (by rw [gm_length]; have := h.len; omega); rw [gm_keys] at cS; change CallsIn Fence.wide 5 Tryz.prog _ _ _ (fun e w' => ∃ v : Value, e = .returned v ∧ w'.ownsRow _ 9 1 v (keysS s).length ((keysS s).map encStr) ∧ _) at cS; generalize keysS s = ks at *; have CS := hdd cS; have hws := hW.size; clear cS hM hB h hbs; refine callsIn_of_wp Tryz.func209 rfl trivial ?_ rfl; simp only [Tryz.ntmps209, List.size_toArray, List.length_cons, List.length_nil, Nat.reduceAdd, Nat.reduceSub, Array.replicate_succ, Array.replicate_zero, List.push_toArray, List.append_toArray, List.nil_append, List.cons_append]
 gi_wp2_with (first
   | (refine ⟨trivial, ?_⟩; gi_at_call 52; refine (callsIn_wide.2 cMd.out).mono ?_; rintro e W' ⟨rfl, rfl⟩)
   | (refine ⟨trivial, ?_⟩; gi_at_call 210; refine (callsIn_wide.2 (callsIn_wide.1 cK.out)).mono ?_; rintro e W' ⟨rfl, rfl⟩)
   | (refine ⟨trivial, ?_⟩; gi_at_call 156; refine (callsIn_wide.2 (callsIn_wide.1 CS.out)).mono ?_; rintro e W1 ⟨kv, rfl, hkv, hb1⟩; obtain ⟨Ak, ck, rfl, -⟩ := (Sl.of_own hkv).at_))
 have hal := (Below.refl W.heap.size W).alloc (Nat.le_refl _) (.cells #[.map (some mb)] 133); have hb01 : Below W.heap.size W W1 := hal.trans (hb1.mono hal.size); have hs01 := hb01.size; have hJ1 : J [] W1 := hJ _ _ _ none h0 (only_of_below hb01 none) (fun r e => by cases e); have hK1 : Sl W1 W.heap.size W1.heap.size 1 (.slice Ak ks.length ck) ks.length (ks.map encStr) := (Sl.of_own hkv).wide (lo' := W.heap.size) (by simp) (Nat.le_refl _); have HXL := hdd hxl; clear hkv hal hb1 cK CS cMd cB y0 hxl
 gi_loopw [4, 15] (fun _ i wr => ∃ k : Nat, k ≤ ks.length ∧ i = vI k ∧ J (ks.take k) wr ∧ Sl wr W.heap.size W1.heap.size 1 (.slice Ak ks.length ck) ks.length (ks.map encStr) ∧ W1.heap.size ≤ wr.heap.size) (fun _ i _ => ks.length - (intOf i).toNat)
 case atStart => exact ⟨0, by omega, rfl, hJ1, hK1, Nat.le_refl _⟩
 case round =>
   obtain ⟨k, hk, rfl, hJr, hKr, hsr⟩ := hrel; clear hJ1 hK1
   by_cases hlt : k < ks.length
   · obtain ⟨A', c', he, _, _, h3⟩ := hKr.at_
     cases he
     obtain ⟨kb, ko, hA, hk1, hk2, hck0⟩ := h3 (by omega); have hck := (hck0 k (by omega)).trans (show (ks.map encStr)[k]? = some (encStr ks[k]) by rw [List.getElem?_map, List.getElem?_eq_getElem hlt]; rfl); have hd : decide (k < ks.length) = true := by simpa using hlt
     have hlen3 : ks.take k ++ [ks[k]] <+: ks := by
       rw [← List.take_succ_eq_append_getElem hlt]; exact List.take_prefix _ _
     have HTk := hdd (show ks.take (k + 1) = ks.take k ++ [ks[k]] from List.take_succ_eq_append_getElem hlt); have HKr := hdd hKr; have HJr := hdd hJr; have HY := hdd (hY (ks.take k) ks[k] (encStr ks[k]) wr hJr hlen3 rfl); clear hKr hJr hlen3 hY hck0 h3; generalize ks[k] = kv at *; subst hA; gi_wp2; obtain ⟨fn, tmps, assign, body, hy, hR⟩ := HY.out; rw [show Sem.run _ _ _ = _ from hy]; gi_wp2; refine hR.mono ?_; rintro e W4 (⟨rfl, hJ4, hk4⟩ | ⟨rfl, hJx4, -⟩)
     · rw [← HTk.out] at hJ4
       gi_wp2
       go_roundw
       case rel => exact ⟨k + 1, by omega, by go_num, hJ4, hk4.sl HKr.out (fun i h1 h2 hx => by have := HXL.out i hx; omega), by have := hk4.size; omega⟩
       case measure => simp [intOf]; omega
     · rw [← HTk.out] at hJx4
       gi_wp2; refine bodyPost_ret (results_none rfl _ _ _) rfl ?_; exact ⟨⟨_, rfl⟩, .inr ⟨_, List.take_prefix _ _, hJx4⟩⟩
   · obtain rfl : k = ks.length := by omega
     have hd : decide (ks.length < ks.length) = false := by simp
     rw [List.take_length] at hJr; gi_wp2; go_end0; exact ⟨⟨_, rfl⟩, .inl ⟨_, rfl, hJr⟩⟩
theorem goods_none (n : Nat) (hn : 1 ≤ n) (Bs : Nat) (X : Nat → Prop) (w : World) (hbs : Ob w Bs 72 #[.pointer none]) :
   Ro.Reads Fence.wide n Tryz.prog 209 #[.pointer (some ⟨Bs, 0, none⟩)] (fun (k : Key) (v : Value) (_ : World) => v = encStr k) (KpX X) (fun xs => xs = keysS []) (fun pre => pre <+: keysS []) (fun pre k => pre ++ [k] <+: keysS []) w := by
 intro l J Jx W hW hJ hJx hY h0; have hB := hbs.same hW; have cB : W.cell? ⟨Bs, 0, none⟩ = some (.pointer none) := hB.k 0 rfl; have cM := hdd (made_nil W); refine callsIn_of_wp Tryz.func209 rfl trivial ?_ rfl; simp only [Tryz.ntmps209, List.size_toArray, List.length_cons, List.length_nil, Nat.reduceAdd, Nat.reduceSub, Array.replicate_succ, Array.replicate_zero, List.push_toArray, List.append_toArray, List.nil_append, List.cons_append]; clear hY
 gi_wp2_with (refine ⟨trivial, ?_⟩; gi_at_call 52; refine (callsIn_wide.2 (cM.out)).mono ?_; rintro e W' ⟨rfl, rfl⟩)
 refine bodyPost_ret (results_none rfl _ _ _) rfl ?_; exact ⟨⟨_, rfl⟩, .inl ⟨_, rfl, h0⟩⟩
theorem goods_any (n : Nat) (hn : 1 ≤ n) {w : World} {base : Nat} {p : Value} {s : Stk} (Bs : Nat) (X : Nat → Prop) (h : SpAt w base p s) (hbs : Ob w Bs 72 #[p]) (hxl : ∀ i, X i → i < w.heap.size) :
   Ro.Reads Fence.wide n Tryz.prog 209 #[.pointer (some ⟨Bs, 0, none⟩)] (fun (k : Key) (v : Value) (_ : World) => v = encStr k) (KpX X) (fun xs => xs = keysS s) (fun pre => pre <+: keysS s) (fun pre k => pre ++ [k] <+: keysS s) w := by
 rcases h with ⟨rfl, rfl⟩ | ⟨b, mb, rfl, h2⟩
 · exact goods_none n hn Bs X w hbs
 · exact goods_reads n hn Bs X h2 hbs hxl
end
end Sk
namespace KsU
section
open Go.RowKit Go.Maps Go.Sort Go.Shelf
theorem sorts (m : Nat) : AnyZ.SortsIn Tryz.prog Tryz.sorted156_ren Fence.wide m :=
 ⟨fun blk off cap ss W hH hblk hsz => callsIn_wide.2 (AnyM.slices_Sort_string Tryz.sort212 blk off cap ss W hH hblk hsz),
  fun p cap W => callsIn_wide.2 (AnyM.slices_Sort_string_none Tryz.sort212 p cap W)⟩
theorem keys_calls (mb : Option Nat) (W : World) : CallsIn Fence.wide 5 Tryz.prog 157 #[.map mb] W fun e w' => e = .returned (.func (.func 213) #[] #[.pointer (some ⟨W.heap.size, 0, none⟩)]) ∧ w' = W.alloc (.cells #[.map mb] 267) :=
 AnyZ.keys_in Tryz.keys157 Fence.wide 5 trivial rfl mb W
theorem sorted_raw {H : Type} (b nn : Nat) (D0 : DataW H) (R : Value → Option (DataW H × List MemPlace)) (w : World) (hown : w.ownsMap Tryz.prog 9 R b nn D0) (hmax : Maps.size D0 ≤ maxLen) (hbytes : Maps.size D0 * 16 ≤ 140737488355328) :
   CallsIn Fence.wide 5 Tryz.prog 156 #[.func (.func 213) #[] #[.pointer (some ⟨w.heap.size, 0, none⟩)]] (w.alloc (.cells #[.map (some b)] 267)) fun e w' => ∃ (v : Value) (ss : List (List UInt8)), e = .returned v ∧ ss.Perm (strKeys D0) ∧
     w'.ownsRow (w.alloc (.cells #[.map (some b)] 267)).heap.size 9 1 v ss.length ((ss.mergeSort (fun x y => decide (x ≤ y))).map encStr) ∧ (v = .slice none 0 0 ↔ ss = []) ∧ Below (w.alloc (.cells #[.map (some b)] 267)).heap.size (w.alloc (.cells #[.map (some b)] 267)) w' := by
 have hbl := hown.lt
 have hseq : SeqGives Fence.wide 2 Tryz.prog 213 #[.pointer (some ⟨w.heap.size, 0, none⟩)] encStr (fun ss => ss.Perm (strKeys D0)) (Maps.size D0) (w.alloc (.cells #[.map (some b)] 267)) :=
   AnyZ.keys_gives (ρ := Tryz.keys157_ren) { Tryz.keys157 with } Fence.wide _ trivial rfl (by omega) w.heap.size b nn D0 _ (by simp) (by simp) (by
     obtain ⟨es, clock, hb, Ft, hs, hD⟩ := hown; exact ⟨es, clock, (Below.heap_alloc _ _ b hbl).trans hb, Ft, hs, hD⟩)
 exact AnyZ.sorted_in Tryz.sorted156 Fence.wide 5 trivial trivial trivial trivial rfl (by omega) (sorts _) (enters_of Tryz.func212 (by kernel_rfl) rfl) 213 #[.pointer (some ⟨w.heap.size, 0, none⟩)] trivial (enters_of Tryz.func213 (by kernel_rfl) rfl) _ _ hmax hbytes _ hseq
theorem bb_lt : ∀ a b : List UInt8, bytesBefore a b = true → a < b
 | [], [], h => by cases h
 | [], _ :: _, _ => List.nil_lt_cons _ _
 | _ :: _, [], h => by cases h
 | a :: r, b :: s, h => by
   unfold bytesBefore at h; rw [List.cons_lt_cons_iff]; simp only [Bool.or_eq_true, decide_eq_true_eq, Bool.and_eq_true, beq_iff_eq] at h; rcases h with h | ⟨h, h2⟩
   · exact .inl h
   · exact .inr ⟨h, bb_lt r s h2⟩
theorem strKeys_mEs (m : List (List UInt8 × Value)) : strKeys (DataW.map (mEs strK m)) = m.map (·.1) := by
 simp [strKeys, mEs, Function.comp_def, strOf, strK]
theorem sorted_calls (b : Nat) (m : List (List UInt8 × Value)) (w : World) (hown : GMap strK w Tryz.prog 9 b m) (KK : Keyed Tryz.prog 9) (hmax : m.length ≤ 1099511627776) :
   CallsIn Fence.wide 5 Tryz.prog 156 #[.func (.func 213) #[] #[.pointer (some ⟨w.heap.size, 0, none⟩)]] (w.alloc (.cells #[.map (some b)] 267)) fun e w' => ∃ v : Value, e = .returned v ∧
     w'.ownsRow (w.alloc (.cells #[.map (some b)] 267)).heap.size 9 1 v (m.map (·.1)).length ((m.map (·.1)).map encStr) ∧ Below (w.alloc (.cells #[.map (some b)] 267)).heap.size (w.alloc (.cells #[.map (some b)] 267)) w' := by
 have hsort := hown.sorted KK; have hsz : Maps.size (DataW.map (mEs strK m)) = m.length := by simp [Maps.size, mEs]
 refine (sorted_raw b m.length (.map (mEs strK m)) hold w hown (by rw [hsz]; unfold maxLen; omega) (by rw [hsz]; omega)).mono ?_; rintro e w' ⟨v, ss, rfl, hp, hrow, -, hb⟩; rw [strKeys_mEs] at hp
 have hlt : (m.map (·.1)).Pairwise (· < ·) := by
   rw [List.pairwise_map]; exact hsort.imp (fun {p q} h => bb_lt _ _ h)
 have he : ss.mergeSort (fun x y => decide (x ≤ y)) = m.map (·.1) := by
   refine ((List.mergeSort_perm ss _).trans hp).eq_of_pairwise (le := fun a b : List UInt8 => a ≤ b) (fun a b _ _ h1 h2 => List.le_antisymm h1 h2) ?_ (hlt.imp (fun h => List.le_of_lt h)); have := List.pairwise_mergeSort (le := fun x y : List UInt8 => decide (x ≤ y)) (fun a b c h1 h2 => by simp only [decide_eq_true_eq] at *; exact List.le_trans h1 h2) (fun a b => by simp only [Bool.or_eq_true, decide_eq_true_eq]; exact List.le_total a b) ss; exact this.imp (fun h => by simpa using h)
 have hl : ss.length = (m.map (·.1)).length := hp.length_eq; rw [he, hl] at hrow; exact ⟨v, rfl, hrow, hb⟩
end
end KsU
namespace Kp
section
open Go.RowKit
def own (W : World) (ob : Nat) : Option Nat := (W.cell? ⟨ob, 0, none⟩).bind (·.ownBlock)
theorem own_of {W : World} {ob : Nat} {t : TypeId} {v : Value} (h : Ob W ob t #[v]) : own W ob = v.ownBlock := by
 unfold own; rw [h.cell (j := 0) (v := v) rfl]
 rfl
theorem own_same {A B : World} {ob : Nat} (h : B.heap[ob]? = A.heap[ob]?) : own B ob = own A ob := by
 unfold own; rw [World.cell?_of_block (w := A) (w' := B) (a := ⟨ob, 0, none⟩) h]
structure KpO (X : Nat → Prop) (ob : Nat) (A B : World) : Prop where
 size : A.heap.size ≤ B.heap.size
 same : ∀ b o, A.heap[b]? = some o → ¬ X b → own A ob ≠ some b → (∀ r, o ≠ .loop r) → B.heap[b]? = some o
 next : ∀ g, own B ob = some g → own A ob = some g ∨ A.heap.size ≤ g
theorem KpO.refl (X : Nat → Prop) (ob : Nat) (A : World) : KpO X ob A A := ⟨Nat.le_refl _, fun _ _ h _ _ _ => h, fun _ h => .inl h⟩
theorem KpO.trans {X : Nat → Prop} {ob : Nat} {A B C : World} (h : KpO X ob A B) (k : KpO X ob B C) : KpO X ob A C := by
 refine ⟨Nat.le_trans h.size k.size, fun b o h1 h2 h3 h4 => k.same b o (h.same b o h1 h2 h3 h4) h2 (fun e => ?_) h4, fun g hg => ?_⟩
 · rcases h.next b e with h5 | h5
   · exact h3 h5
   · have := (Array.getElem?_eq_some_iff.1 h1).1
     omega
 · rcases k.next g hg with h5 | h5
   · exact h.next g h5
   · exact .inr (Nat.le_trans h.size h5)
theorem KpO.loop {X : Nat → Prop} {ob : Nat} {W : World} {l : Nat} {r r' : Loop} (h : W.heap[l]? = some (.loop r)) : KpO X ob W (W.putObj l (.loop r')) := by
 have hcell : own (W.putObj l (.loop r')) ob = own W ob := by
   by_cases e : ob = l
   · subst e
     unfold own World.cell?; rw [h, World.putObj_heap_same (Array.getElem?_eq_some_iff.1 h).1]
   · exact own_same (World.putObj_heap_other e)
 refine ⟨by simp, fun b _ hb _ _ hn => ?_, fun g hg => .inl (by rw [← hcell]; exact hg)⟩
 by_cases e : b = l
 · subst e
   rw [h] at hb
   cases hb
   exact (hn r rfl).elim
 · exact (World.putObj_heap_other e).trans hb
theorem KpO.below {X : Nat → Prop} {ob : Nat} {A B : World} (h : Below A.heap.size A B) (ho : ob < A.heap.size) : KpO X ob A B :=
 ⟨h.size, fun b _ hb _ _ _ => (h.block b (Array.getElem?_eq_some_iff.1 hb).1).trans hb, fun g hg => .inl (by rw [← own_same (h.block ob ho)]; exact hg)⟩
theorem KpO.cell {X : Nat → Prop} {ob : Nat} {A B : World} {b j : Nat} {v : Value} (h : KpO X ob A B) (hc : A.cell? ⟨b, j, none⟩ = some v) (hx : ¬ X b) (ho : own A ob ≠ some b) : B.cell? ⟨b, j, none⟩ = some v := by
 have h2 := hc; unfold World.cell? at h2
 split at h2
 · rename_i c t _ hb
   have := h.same b _ hb hx ho (fun r e => by cases e); exact (World.cell?_of_block (w := A) (w' := B) (a := ⟨b, j, none⟩) (this.trans hb.symm)).trans hc
 · cases h2
theorem KpO.sl {X : Nat → Prop} {ob : Nat} {A B : World} {lo hi size n : Nat} {v : Value} {xs : List Value} (h : KpO X ob A B) (hs : Sl A lo hi size v n xs) (hx : ∀ i, lo ≤ i → i < hi → ¬ X i ∧ own A ob ≠ some i) : Sl B lo hi size v n xs := by
 refine ⟨hs.len, ?_⟩; obtain ⟨A', c, e, h1, h2, h3⟩ := hs.at_; refine ⟨A', c, e, h1, h2, fun hn => ?_⟩; obtain ⟨b, o, ea, hl, hb, hc⟩ := h3 hn; refine ⟨b, o, ea, hl, hb, fun j hj => ?_⟩; have hj2 : j < xs.length := by rw [hs.len]; exact hj
 have e2 : xs[j]? = some xs[j] := List.getElem?_eq_getElem hj2; rw [e2]; exact h.cell ((hc j hj).trans e2) (hx b hl hb).1 (hx b hl hb).2
end
end Kp
end Go.Proofs.YtgcnhmjpfbbfcaaGreat
