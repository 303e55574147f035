/-
  cells: slices.Clone at bytes; the maker: New, put, Num, Text, Done.
-/
import Derived.Test.YtloabanhoeaidaaCatB
import Derived.Test.YtloabanhoeaidaaMem
import Derived.Test.YtloabanhoeaidaaCeP
import Derived.Laws.IdiomStrings
import Derived.Lib.SliceRun
namespace Go.Proofs.Ytloabanhoeaidaa
open Go.RowKit
namespace Ce

theorem BytesAt.all {w : World} {lo : Nat} {v : Value} {l : List UInt8} (h : w.ownsRow lo 5 1 v l.length (bytesV l)) : BytesAt w 0 w.heap.size v l := (BytesAt.of_own h).wide (Nat.zero_le _) (Nat.le_refl _)

set_option maxRecDepth 100000 in
set_option maxHeartbeats 1000000 in
theorem cloneb_calls (l : List UInt8) (v : Value) (w : World) (h : BytesAt w 0 w.heap.size v l) (hl : l.length ≤ 140737488351232) :
    Calls Try.prog 51 #[v] w fun e w' => (∃ v', e = .returned v' ∧ w'.ownsRow w.heap.size 5 1 v' l.length (bytesV l)) ∧ Below w.heap.size w w' := by
  obtain ⟨i0, hi0, hz0⟩ := Option.map_eq_some_iff.1 byte_info
  simp only [Prod.mk.injEq] at hz0
  obtain ⟨hz0, hz1, hz2⟩ := hz0
  have h0 := h
  have HL := Lib.hid hl
  clear hl
  obtain ⟨A, c, rfl, hc1, hc2⟩ := h.form
  unfold maxLen at hc2
  have heq := Lib.run_eql_slice_nil (P := Try.prog) w 41 5 A l.length c 0 0 Try.underlying41
  rcases A with _ | ad
  · have hl0 : l = [] := by
      rcases l with _ | ⟨x, r⟩
      · rfl
      · obtain ⟨b, o, e, _⟩ := h.cellAt (j := 0) (by simp)
        cases e
    subst hl0
    simp only [List.length_nil] at heq ⊢
    go_enter Try.func51, Try.ntmps51
    go_wp2
    go_ret
    exact ⟨⟨_, rfl, World.ownsRow_nil _ _ _ _⟩, Below.refl _ _⟩
  · go_enter Try.func51, Try.ntmps51
    go_wp2_with (at_builtin
                 refine wpList_append_sl _ rfl (.tmp 5) (.tmp 6) _ rfl w.heap.size 5 i0 _ 1 1 Try.underlying41 hi0 hz0 hz1 hz2 rfl (by omega) (.slice (some ⟨w.heap.size, 0, none⟩) 0 0) 0 [] rfl (World.ownsRow_lit w #[] 0 (Nat.le_refl _) (Nat.zero_le _) rfl) 0 w.heap.size _ l.length (bytesV l) rfl (Sl.below h0 ((Below.refl _ w).alloc (Nat.le_refl _) _)) (bytesV_one l) (by have := HL.out; unfold maxLen; omega) (by have := HL.out; omega) (by simp) ?_
                 intro v1 w1 hv1 hg1 hat1
                 have hB : Below w.heap.size w w1 := ((Below.refl _ w).alloc (Nat.le_refl _) (.cells #[] 5)).grown hg1 (by simp) (fun g hg => by cases hg; exact Nat.le_refl _)
                 clear hg1 hat1)
    have hown : w1.ownsRow w.heap.size 5 1 v1 l.length (bytesV l) := by simpa using hv1
    obtain ⟨A1, c1, rfl, -⟩ := (BytesAt.of_own hown).form
    clear hv1
    go_wp2
    go_ret
    exact ⟨⟨_, rfl, hown⟩, hB⟩

/-- the state of a maker behind one more cell -/
def mPut (s : List UInt8 × Bool) (c : List UInt8) : List UInt8 × Bool := if s.2 then s else if 262144 < s.1.length + c.length then (s.1, true) else (s.1 ++ c, false)
/-- a maker of the program's: its cells so far, and whether there were too many; Fr: blocks that are not its own -/
def Mk (w : World) (bm : Nat) (Fr : Nat → Prop) (s : List UInt8 × Bool) : Prop :=
  s.1.length ≤ 262144 ∧ ¬ Fr bm ∧ (∀ i, Fr i → i < w.heap.size) ∧
  ∃ v, Ob w bm 98 #[v, .bool s.2] ∧ w.ownsRow (bm + 1) 5 1 v s.1.length (bytesV s.1) ∧ (∀ g, v.ownBlock = some g → ¬ Fr g)
theorem Mk.lt {w : World} {bm : Nat} {Fr : Nat → Prop} {s : List UInt8 × Bool} (h : Mk w bm Fr s) : bm < w.heap.size := by
  obtain ⟨_, _, _, v, ho, _⟩ := h
  exact ho.lt
/-- what was made behind it is kept, too -/
theorem Mk.later {w w' : World} {bm : Nat} {Fr Fr' : Nat → Prop} {s : List UInt8 × Bool} (h : Mk w bm Fr s) (hb : Below w.heap.size w w') (hF : ∀ i, Fr' i → (Fr i ∨ w.heap.size ≤ i) ∧ i < w'.heap.size) : Mk w' bm Fr' s := by
  obtain ⟨h1, h2, h3, v, ho, hr, hg⟩ := h
  have hlt := ho.lt
  refine ⟨h1, fun hf => ?_, fun i hi => (hF i hi).2, v, ho.same hb, ownsRow_below hr hb, fun g hg' hf => ?_⟩
  · rcases (hF _ hf).1 with h | h
    · exact h2 h
    · omega
  · rcases (hF _ hf).1 with h | h
    · exact hg g hg' h
    · have := (hr.lt g hg').2; omega
theorem ownsRow_set {w : World} {lo b j : Nat} {e : TypeId} {size n : Nat} {v u : Value} {xs : List Value} (h : w.ownsRow lo e size v n xs) (hb : b < lo) : (w.setCell ⟨b, j, none⟩ u).ownsRow lo e size v n xs := by
  refine h.kept (grownBy_set w b j u) ?_
  cases hv : v.ownBlock with
  | none => simp
  | some g => have := (h.lt g hv).1; exact .inr (by simp; omega)
theorem new_calls (w : World) :
    Calls Try.prog 58 #[] w fun e w' => e = .returned (.pointer (some ⟨w.heap.size, 0, none⟩)) ∧ w.alloc (.cells #[.slice none 0 0, .bool false] 98) = w' := by
  go_enter Try.func58, Try.ntmps58
  go_wp2
  go_ret
  exact ⟨rfl, rfl⟩
theorem Mk.new (w : World) (Fr : Nat → Prop) (hF : ∀ i, Fr i → i < w.heap.size) : Mk (w.alloc (.cells #[.slice none 0 0, .bool false] 98)) w.heap.size Fr ([], false) :=
  ⟨by simp, fun h => by have := hF _ h; omega, fun i hi => by have := hF i hi; simp; omega, _, Ob.new _ _ _, World.ownsRow_nil _ _ _ _, fun g hg => by cases hg⟩

set_option maxRecDepth 100000 in
set_option maxHeartbeats 4000000 in
theorem put_calls (x : List UInt8) (l : List CatB.Part) (bk bm : Nat) (Fr : Nat → Prop) (s : List UInt8 × Bool) (w : World) (hM : Mk w bm Fr s) (hbk : bk < w.heap.size) (hll : l.length ≤ 100) (hcell : ∀ j (h : j < l.length), w.cell? ⟨bk, j, none⟩ = some (CatB.pv l[j]))
    (hp : CatB.Parts w w.heap.size l) (hx : CatB.all l = bytesV x) (hlx : CatB.lens l = x.length) (hlen : x.length ≤ 1000000) :
    Calls Try.prog 72 #[.pointer (some ⟨bm, 0, none⟩), .slice (some ⟨bk, 0, none⟩) l.length l.length] w fun e w' => e = .returned (.pointer (some ⟨bm, 0, none⟩)) ∧ Mk w' bm Fr (mPut s x) ∧ Kept Fr w w' := by
  obtain ⟨i0, hi0, hz0⟩ := Option.map_eq_some_iff.1 byte_info
  simp only [Prod.mk.injEq] at hz0
  obtain ⟨hz0, hz1, hz2⟩ := hz0
  have cC := Lib.hid (CatB.concat_calls l bk l.length w (Nat.le_refl _) (by unfold maxLen; omega) hbk hcell hp (by omega))
  rw [hx, hlx] at cC
  clear hcell hp hx hlx
  obtain ⟨S, long⟩ := s
  obtain ⟨hM1, hM2, hM3, v, hO, hR, hG⟩ := hM
  dsimp only at hM1 hO hR
  obtain ⟨A, c, rfl, hc1, hc2⟩ := (BytesAt.of_own hR).form
  have hFlt := Lib.hid hM3
  have hGr := Lib.hid hG
  clear hG hM3
  go_enter Try.func72, Try.ntmps72
  go_wp2_with fail
  refine cC.out.mono ?_
  rintro e W1 ⟨⟨cv, rfl, hcv⟩, hB⟩
  have hO1 := hO.same hB
  have hR1 := ownsRow_below hR hB
  have hbm := hO.lt
  have hK1 : Kept Fr w W1 := Kept.of_below hB hFlt.out
  have hs1 := hB.size
  have hcB := BytesAt.of_own hcv
  obtain ⟨A1, c1, rfl, hc3, -⟩ := hcB.form
  have g0 := hO1.cell (j := 0) rfl
  have g1 := hO1.cell (j := 1) rfl
  have f1 := hO1.frozen 1
  have hFlt1 := Lib.hid (fun i hi => Nat.lt_of_lt_of_le (hFlt.out i hi) hs1)
  cases long with
  | true =>
    have HS := Lib.hid (show mPut (S, true) x = (S, true) from rfl)
    have hO2 := hO1.set 1 (.bool true)
    have hR2 := ownsRow_set (b := bm) (j := 1) (u := .bool true) hR1 (by omega)
    have hg2 := grownBy_set W1 bm 1 (.bool true)
    go_wp2
    go_ret
    refine ⟨rfl, ?_, hK1.trans (Kept.of_grown hg2 (fun i hi => ⟨hFlt1.out i hi, fun e => hM2 (by cases e; exact hi)⟩))⟩
    rw [HS.out]
    exact ⟨hM1, hM2, fun i hi => Nat.lt_of_lt_of_le (hFlt1.out i hi) hg2.size, _, hO2, hR2, hGr.out⟩
  | false =>
    by_cases hbig : 262144 < S.length + x.length
    · have HS := Lib.hid (show mPut (S, false) x = (S, true) by unfold mPut; rw [if_neg (by simp)]; exact if_pos hbig)
      have hd : decide ((x.length : Int) > 262144 - (S.length : Int)) = true := by simp; omega
      have hO2 := hO1.set 1 (.bool true)
      have hR2 := ownsRow_set (b := bm) (j := 1) (u := .bool true) hR1 (by omega)
      have hg2 := grownBy_set W1 bm 1 (.bool true)
      clear hbig
      go_wp2
      go_ret
      refine ⟨rfl, ?_, hK1.trans (Kept.of_grown hg2 (fun i hi => ⟨hFlt1.out i hi, fun e => hM2 (by cases e; exact hi)⟩))⟩
      rw [HS.out]
      exact ⟨hM1, hM2, fun i hi => Nat.lt_of_lt_of_le (hFlt1.out i hi) hg2.size, _, hO2, hR2, hGr.out⟩
    · have HS := Lib.hid (show mPut (S, false) x = (S ++ x, false) by unfold mPut; rw [if_neg (by simp)]; exact if_neg hbig)
      have hd : decide ((x.length : Int) > 262144 - (S.length : Int)) = false := by simp; omega
      have hO2 := hO1.set 1 (.bool false)
      have hR2 := ownsRow_set (b := bm) (j := 1) (u := .bool false) hR1 (by omega)
      have hg2 := grownBy_set W1 bm 1 (.bool false)
      have hc2' : BytesAt (W1.setCell ⟨bm, 1, none⟩ (.bool false)) w.heap.size W1.heap.size (.slice A1 x.length c1) x := Sl.grown hcB hg2 (Nat.le_refl _) (fun k e => .inl (by cases e; exact hbm))
      have hKK := hK1.trans (Kept.of_grown hg2 (fun i hi => ⟨hFlt1.out i hi, fun e => hM2 (by cases e; exact hi)⟩))
      have hsz2 := hg2.size
      go_wp2_with (at_builtin
                   refine wpList_append_sl _ rfl (.tmp 37) (.tmp 38) _ rfl (bm + 1) 5 i0 _ 1 1 Try.underlying41 hi0 hz0 hz1 hz2 rfl (by omega) (.slice A S.length c) S.length (bytesV S) rfl hR2 w.heap.size W1.heap.size _ x.length (bytesV x) rfl hc2' (bytesV_one x) (by unfold maxLen; omega) (by omega) (by omega) ?_
                   intro v5 w5 hv5 hg5 hat5
                   obtain ⟨A5, c5, rfl, -⟩ := (Sl.of_own hv5).at_
                   have hne : some bm ≠ (Value.slice A S.length c).ownBlock := fun e => (by have := (hR2.lt bm e.symm).1; omega)
                   have hO5 := hO2.kept hg5 hne
                   have g5 := hO5.cell (j := 0) rfl
                   have f5 := hO5.frozen 0)
      have hO6 := hO5.set 0 (.slice A5 (S.length + x.length) c5)
      have hR6 := ownsRow_set (b := bm) (j := 0) (u := .slice A5 (S.length + x.length) c5) hv5 (by omega)
      have hg6 := grownBy_set w5 bm 0 (.slice A5 (S.length + x.length) c5)
      go_wp2
      go_ret
      have hlt2 : ∀ i, Fr i → i < (W1.setCell ⟨bm, 1, none⟩ (.bool false)).heap.size := fun i hi => Nat.lt_of_lt_of_le (hFlt1.out i hi) hsz2
      have hK5 := hKK.trans (Kept.of_grown hg5 (fun i hi => ⟨hlt2 i hi, fun e => hGr.out i e.symm hi⟩))
      have hlt5 : ∀ i, Fr i → i < w5.heap.size := fun i hi => Nat.lt_of_lt_of_le (hlt2 i hi) hg5.size
      refine ⟨rfl, ?_, hK5.trans (Kept.of_grown hg6 (fun i hi => ⟨hlt5 i hi, fun e => hM2 (by cases e; exact hi)⟩))⟩
      rw [HS.out]
      refine ⟨by simp; omega, hM2, fun i hi => Nat.lt_of_lt_of_le (hlt5 i hi) hg6.size, _, hO6, by rw [List.length_append, bytesV_append]; exact hR6, fun g hg hf => ?_⟩
      rcases hat5 with h | h
      · exact hGr.out g (h ▸ hg) hf
      · rw [h] at hg
        cases hg
        have := hlt2 _ hf
        omega
end Ce
end Go.Proofs.Ytloabanhoeaidaa
