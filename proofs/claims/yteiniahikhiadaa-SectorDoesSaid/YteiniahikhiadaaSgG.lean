/-
  sector: the iterator Dirty.
-/
import Derived.Test.YteiniahikhiadaaSgF
import Derived.Test.YteiniahikhiadaaKeyS
import Derived.Test.YteiniahikhiadaaKpx
import Derived.Test.YteiniahikhiadaaRr
import Derived.Test.YteiniahikhiadaaSfD
namespace Go.Proofs.Yteiniahikhiadaa
open Go.RowKit Go.Maps
namespace Se
open Ce It Kp
attribute [local go_sem] Oper.semAt_some
def keysD (D : Dv) : List Int := (bm D.dm).map (·.1)
set_option maxRecDepth 100000 in
set_option maxHeartbeats 4000000 in
theorem dirty_reads (n : Nat) (hn : 1 ≤ n) {w : World} {base d sb mb : Nat} {D : Dv} (Bs : Nat) (X : Nat → Prop) (h : DvAt w base d sb mb D) (hbs : Ob w Bs 24 #[.pointer (some ⟨d, 0, none⟩)]) (hxl : ∀ i, X i → i < w.heap.size) :
    Rr.Reads Fence.wide n Try.prog 72 #[.pointer (some ⟨Bs, 0, none⟩)] (fun (k : Int) (v : Value) (_ : World) => v = .int .i64 k) (KpX X) (fun xs => xs = keysD D) (fun pre => pre <+: keysD D) (fun pre k => pre ++ [k] <+: keysD D) w := by
  intro l J Jx W hW hJ hJx hY h0
  have hM := h.same hW
  have hB := hbs.same hW
  have cB : W.cell? ⟨Bs, 0, none⟩ = some (.pointer (some ⟨d, 0, none⟩)) := hB.cell (j := 0) rfl
  obtain ⟨y0, y1, -⟩ := Ob.dev hM.ob
  have cMd := Lib.hid (made_calls d mb W y1)
  have hlen := hM.short
  have cK := Lib.hid (KsS.keys_calls (some mb) W)
  have cS := KsS.sorted_calls mb (bm D.dm) W hM.map keyedI (by omega)
  have hkl : (keysD D).length ≤ 16384 := by unfold keysD; rw [List.length_map]; exact hlen
  change CallsIn Fence.wide 5 Try.prog _ _ _ (fun e w' => ∃ v : Value, e = .returned v ∧ w'.ownsRow _ 3 1 v (keysD D).length (ints (keysD D)) ∧ _) at cS
  generalize keysD D = ks at *
  have CS := Lib.hid cS
  have hws := hW.size
  clear cS hM hB h hbs hlen y0
  refine callsIn_of_wp Try.func72 rfl trivial ?_ rfl
  simp only [Try.ntmps72, List.size_toArray, List.length_cons, List.length_nil, Nat.reduceAdd, Nat.reduceSub, Array.replicate_succ, Array.replicate_zero, List.push_toArray, List.append_toArray, List.nil_append, List.cons_append]
  gi_wp2_with (first
    | (refine ⟨trivial, ?_⟩; gi_at_call 67; refine (callsIn_wide.2 cMd.out).mono ?_; rintro e W' ⟨rfl, rfl⟩)
    | (refine ⟨trivial, ?_⟩; gi_at_call 74; refine (callsIn_wide.2 (callsIn_wide.1 cK.out)).mono ?_; rintro e W' ⟨rfl, rfl⟩)
    | (refine ⟨trivial, ?_⟩; gi_at_call 73; refine (callsIn_wide.2 (callsIn_wide.1 CS.out)).mono ?_; rintro e W1 ⟨kv, rfl, hkv, hb1⟩; obtain ⟨Ak, ck, rfl, -⟩ := (IntsAt.of_own hkv).form))
  have hal := (Below.refl W.heap.size W).alloc (Nat.le_refl _) (.cells #[.map (some mb)] 79)
  have hb01 : Below W.heap.size W W1 := hal.trans (hb1.mono hal.size)
  have hs01 := hb01.size
  have hJ1 : J [] W1 := hJ _ _ _ none h0 (only_of_below hb01 none) (fun r e => by cases e)
  have hK1 : IntsAt W1 W.heap.size W1.heap.size (.slice Ak ks.length ck) ks := (IntsAt.of_own hkv).wide (lo' := W.heap.size) (by simp) (Nat.le_refl _)
  have HXL := Lib.hid hxl
  clear hkv hal hb1 cK CS cMd cB y1 hxl
  gi_loopw [4, 15] (fun _ i wr => ∃ k : Nat, k ≤ ks.length ∧ i = .int .i64 k ∧ J (ks.take k) wr ∧ IntsAt wr W.heap.size W1.heap.size (.slice Ak ks.length ck) ks ∧ W1.heap.size ≤ wr.heap.size) (fun _ i _ => ks.length - (intOf i).toNat)
  case atStart => exact ⟨0, by omega, rfl, hJ1, hK1, Nat.le_refl _⟩
  case round =>
    obtain ⟨k, hk, rfl, hJr, hKr, hsr⟩ := hrel
    clear hJ1 hK1
    by_cases hlt : k < ks.length
    · obtain ⟨kb, ko, hA, hk1, hk2, hck⟩ := hKr.cellAt (j := k) hlt
      have hd : decide (k < ks.length) = true := by simpa using hlt
      have hget : ks.getD k 0 = ks[k] := by simp [hlt]
      rw [hget] at hck
      have hlen3 : ks.take k ++ [ks[k]] <+: ks := by
        rw [← List.take_succ_eq_append_getElem hlt]
        exact List.take_prefix _ _
      have HTk := Lib.hid (show ks.take (k + 1) = ks.take k ++ [ks[k]] from List.take_succ_eq_append_getElem hlt)
      have HKr := Lib.hid hKr
      have HJr := Lib.hid hJr
      have HY := Lib.hid (hY (ks.take k) ks[k] (.int .i64 ks[k]) wr hJr hlen3 rfl)
      clear hKr hJr hget hlen3 hY
      generalize ks[k] = kv at *
      subst hA
      gi_wp2
      obtain ⟨fn, tmps, assign, body, hy, hR⟩ := HY.out
      rw [show Sem.run _ _ _ = _ from hy]
      gi_wp2
      refine hR.mono ?_
      rintro e W4 (⟨rfl, hJ4, hk4⟩ | ⟨rfl, hJx4⟩)
      · rw [← HTk.out] at hJ4
        gi_wp2
        go_roundw
        case rel => exact ⟨k + 1, by omega, by go_num, hJ4, hk4.sl HKr.out (fun i h1 h2 hx => by have := HXL.out i hx; omega), by have := hk4.size; omega⟩
        case measure => simp [intOf]; omega
      · rw [← HTk.out] at hJx4
        gi_wp2
        refine bodyPost_ret (results_none rfl _ _ _) rfl ?_
        exact ⟨⟨_, rfl⟩, .inr ⟨_, List.take_prefix _ _, hJx4⟩⟩
    · obtain rfl : k = ks.length := by omega
      have hd : decide (ks.length < ks.length) = false := by simp
      rw [List.take_length] at hJr
      gi_wp2
      go_end0
      exact ⟨⟨_, rfl⟩, .inl ⟨_, rfl, hJr⟩⟩
end Se
end Go.Proofs.Yteiniahikhiadaa
