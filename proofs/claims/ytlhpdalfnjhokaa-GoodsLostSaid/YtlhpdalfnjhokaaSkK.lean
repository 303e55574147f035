/-
  a stock of goods: the iterator Goods.
-/
import Derived.Test.YtlhpdalfnjhokaaSkJ
import Derived.Test.YtlhpdalfnjhokaaKeyT
import Derived.Test.YtlhpdalfnjhokaaKpx
import Derived.Test.YtlhpdalfnjhokaaRr
namespace Go.Proofs.Ytlhpdalfnjhokaa
open Go.RowKit Go.Maps
namespace Sk
open It Al Kp
attribute [local go_sem] Oper.semAt_some
def keysS (s : Stk) : List Key := s.map (·.1)
theorem StkAt.short {w : World} {base b mb : Nat} {s : Stk} (h : StkAt w base b mb s) : (keysS s).length ≤ 64 := by unfold keysS; rw [List.length_map]; exact h.len
theorem goods_calls (p : Value) (hp : p.oneCell' = true) (w : World) :
    Calls Try.prog 26 #[p] w fun e w' => e = .returned (.func (.func 45) #[] #[.pointer (some ⟨w.heap.size, 0, none⟩)]) ∧ w' = w.alloc (.cells #[p] 53) := by
  have hmf : ∀ (fn : Fn) (first cap : Array Value) (w : World), (Instr.makeFunc fn first cap).run Try.prog w = .ok (.func fn first cap) w := fun _ _ _ _ => rfl
  go_enter Try.func26, Try.ntmps26
  go_wp2
  go_ret
  exact ⟨rfl, rfl⟩
set_option maxRecDepth 100000 in
set_option maxHeartbeats 4000000 in
theorem goods_reads (n : Nat) (hn : 1 ≤ n) {w : World} {base b mb : Nat} {s : Stk} (Bs : Nat) (X : Nat → Prop) (h : StkAt w base b mb s) (hbs : Ob w Bs 53 #[.pointer (some ⟨b, 0, none⟩)]) (hxl : ∀ i, X i → i < w.heap.size) :
    Rr.Reads Fence.wide n Try.prog 45 #[.pointer (some ⟨Bs, 0, none⟩)] (fun (k : Key) (v : Value) (_ : World) => v = encStr k) (KpX X) (fun xs => xs = keysS s) (fun pre => pre <+: keysS s) (fun pre k => pre ++ [k] <+: keysS s) w := by
  intro l J Jx W hW hJ hJx hY h0
  have hM := h.same hW
  have hB := hbs.same hW
  have cB : W.cell? ⟨Bs, 0, none⟩ = some (.pointer (some ⟨b, 0, none⟩)) := hB.cell (j := 0) rfl
  have y0 := hM.ob.cell (j := 0) (v := .map (some mb)) rfl
  have cMd := Lib.hid (made_calls b mb W y0)
  have hkl := h.short
  have cK := Lib.hid (KsT.keys_calls (some mb) W)
  have cS := KsT.sorted_calls mb (gm rowV s) W hM.map keyedS (by rw [gm_length]; have := h.len; omega)
  rw [gm_keys] at cS
  change CallsIn Fence.wide 5 Try.prog _ _ _ (fun e w' => ∃ v : Value, e = .returned v ∧ w'.ownsRow _ 9 1 v (keysS s).length ((keysS s).map encStr) ∧ _) at cS
  generalize keysS s = ks at *
  have CS := Lib.hid cS
  have hws := hW.size
  clear cS hM hB h hbs
  refine callsIn_of_wp Try.func45 rfl trivial ?_ rfl
  simp only [Try.ntmps45, List.size_toArray, List.length_cons, List.length_nil, Nat.reduceAdd, Nat.reduceSub, Array.replicate_succ, Array.replicate_zero, List.push_toArray, List.append_toArray, List.nil_append, List.cons_append]
  gi_wp2_with (first
    | (refine ⟨trivial, ?_⟩; gi_at_call 36; refine (callsIn_wide.2 cMd.out).mono ?_; rintro e W' ⟨rfl, rfl⟩)
    | (refine ⟨trivial, ?_⟩; gi_at_call 46; refine (callsIn_wide.2 (callsIn_wide.1 cK.out)).mono ?_; rintro e W' ⟨rfl, rfl⟩)
    | (refine ⟨trivial, ?_⟩; gi_at_call 27; refine (callsIn_wide.2 (callsIn_wide.1 CS.out)).mono ?_; rintro e W1 ⟨kv, rfl, hkv, hb1⟩; obtain ⟨Ak, ck, rfl, -⟩ := (Sl.of_own hkv).at_))
  have hal := (Below.refl W.heap.size W).alloc (Nat.le_refl _) (.cells #[.map (some mb)] 80)
  have hb01 : Below W.heap.size W W1 := hal.trans (hb1.mono hal.size)
  have hs01 := hb01.size
  have hJ1 : J [] W1 := hJ _ _ _ none h0 (only_of_below hb01 none) (fun r e => by cases e)
  have hK1 : Sl W1 W.heap.size W1.heap.size 1 (.slice Ak ks.length ck) ks.length (ks.map encStr) := (Sl.of_own hkv).wide (lo' := W.heap.size) (by simp) (Nat.le_refl _)
  have HXL := Lib.hid hxl
  clear hkv hal hb1 cK CS cMd cB y0 hxl
  gi_loopw [4, 15] (fun _ i wr => ∃ k : Nat, k ≤ ks.length ∧ i = .int .i64 k ∧ J (ks.take k) wr ∧ Sl wr W.heap.size W1.heap.size 1 (.slice Ak ks.length ck) ks.length (ks.map encStr) ∧ W1.heap.size ≤ wr.heap.size) (fun _ i _ => ks.length - (intOf i).toNat)
  case atStart => exact ⟨0, by omega, rfl, hJ1, hK1, Nat.le_refl _⟩
  case round =>
    obtain ⟨k, hk, rfl, hJr, hKr, hsr⟩ := hrel
    clear hJ1 hK1
    by_cases hlt : k < ks.length
    · obtain ⟨A', c', he, _, _, h3⟩ := hKr.at_
      cases he
      obtain ⟨kb, ko, hA, hk1, hk2, hck0⟩ := h3 (by omega)
      have hck := (hck0 k (by omega)).trans (show (ks.map encStr)[k]? = some (encStr ks[k]) by rw [List.getElem?_map, List.getElem?_eq_getElem hlt]; rfl)
      have hd : decide (k < ks.length) = true := by simpa using hlt
      have hlen3 : ks.take k ++ [ks[k]] <+: ks := by
        rw [← List.take_succ_eq_append_getElem hlt]
        exact List.take_prefix _ _
      have HTk := Lib.hid (show ks.take (k + 1) = ks.take k ++ [ks[k]] from List.take_succ_eq_append_getElem hlt)
      have HKr := Lib.hid hKr
      have HJr := Lib.hid hJr
      have HY := Lib.hid (hY (ks.take k) ks[k] (encStr ks[k]) wr hJr hlen3 rfl)
      clear hKr hJr hlen3 hY hck0 h3
      generalize ks[k] = kv at *
      subst hA
      gi_wp2
      obtain ⟨fn, tmps, assign, body, hy, hR⟩ := HY.out
      rw [show Sem.run _ _ _ = _ from hy]
      gi_wp2
      refine hR.mono ?_
      rintro e W4 (⟨rfl, hJ4, hk4⟩ | ⟨rfl, hJx4⟩)
      · rw [← HTk.out] at hJ4
        gi_wp2
        go_roundw
        case rel => exact ⟨k + 1, by omega, by go_num, hJ4, hk4.sl HKr.out (fun i h1 h2 hx => by have := HXL.out i hx; omega), by have := hk4.size; omega⟩
        case measure => simp [intOf]; omega
      · rw [← HTk.out] at hJx4
        gi_wp2
        refine bodyPost_ret (results_none rfl _ _ _) rfl ?_
        exact ⟨⟨_, rfl⟩, .inr ⟨_, List.take_prefix _ _, hJx4⟩⟩
    · obtain rfl : k = ks.length := by omega
      have hd : decide (ks.length < ks.length) = false := by simp
      rw [List.take_length] at hJr
      gi_wp2
      go_end0
      exact ⟨⟨_, rfl⟩, .inl ⟨_, rfl, hJr⟩⟩
theorem goods_none (n : Nat) (hn : 1 ≤ n) (Bs : Nat) (X : Nat → Prop) (w : World) (hbs : Ob w Bs 53 #[.pointer none]) :
    Rr.Reads Fence.wide n Try.prog 45 #[.pointer (some ⟨Bs, 0, none⟩)] (fun (k : Key) (v : Value) (_ : World) => v = encStr k) (KpX X) (fun xs => xs = keysS []) (fun pre => pre <+: keysS []) (fun pre k => pre ++ [k] <+: keysS []) w := by
  intro l J Jx W hW hJ hJx hY h0
  have hB := hbs.same hW
  have cB : W.cell? ⟨Bs, 0, none⟩ = some (.pointer none) := hB.cell (j := 0) rfl
  have cM := Lib.hid (made_nil W)
  refine callsIn_of_wp Try.func45 rfl trivial ?_ rfl
  simp only [Try.ntmps45, List.size_toArray, List.length_cons, List.length_nil, Nat.reduceAdd, Nat.reduceSub, Array.replicate_succ, Array.replicate_zero, List.push_toArray, List.append_toArray, List.nil_append, List.cons_append]
  clear hY
  gi_wp2_with (refine ⟨trivial, ?_⟩; gi_at_call 36; refine (callsIn_wide.2 (cM.out)).mono ?_; rintro e W' ⟨rfl, rfl⟩)
  refine bodyPost_ret (results_none rfl _ _ _) rfl ?_
  exact ⟨⟨_, rfl⟩, .inl ⟨_, rfl, h0⟩⟩
theorem goods_any (n : Nat) (hn : 1 ≤ n) {w : World} {base : Nat} {p : Value} {s : Stk} (Bs : Nat) (X : Nat → Prop) (h : SpAt w base p s) (hbs : Ob w Bs 53 #[p]) (hxl : ∀ i, X i → i < w.heap.size) :
    Rr.Reads Fence.wide n Try.prog 45 #[.pointer (some ⟨Bs, 0, none⟩)] (fun (k : Key) (v : Value) (_ : World) => v = encStr k) (KpX X) (fun xs => xs = keysS s) (fun pre => pre <+: keysS s) (fun pre k => pre ++ [k] <+: keysS s) w := by
  rcases h with ⟨rfl, rfl⟩ | ⟨b, mb, rfl, h2⟩
  · exact goods_none n hn Bs X w hbs
  · exact goods_reads n hn Bs X h2 hbs hxl
end Sk
end Go.Proofs.Ytlhpdalfnjhokaa
