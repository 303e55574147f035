/-
  sagas played: come, whatever comes.
-/
import Derived.Test.YthfpfomifebpbaaPz10
import Derived.Test.YthfpfomifebpbaaPz11

set_option linter.unusedVariables false
set_option linter.unusedSimpArgs false
namespace Go.Proofs.Ythfpfomifebpbaa
open Go.RowKit Go.Maps
namespace Sa
open It
set_option linter.unusedSimpArgs false

theorem way_len {n : Nat} {W T : Int} {p : Play} {Q : Nat → Int} (h : Inv n W T p Q) : p.way.length ≤ 8 := by
  have h1 := (pend_in h.may).2
  rw [h.way]
  unfold wayOf
  split
  · rw [List.length_map]; exact h1
  split
  · unfold eachL; rw [List.length_map]; exact h1
  split
  · unfold eachL; rw [List.length_map]; exact h1
  split
  · unfold eachL; rw [List.length_map]; exact h1
  · simp
theorem pos79 {n : Nat} {W T : Int} {p : Play} {Q : Nat → Int} (h : Inv n W T p Q) (h7 : p.s.state = 7 ∨ p.s.state = 9) {r : Nat} (hr : (r : Int) ∈ p.s.pending) (hrn : r < n) : 0 < Q r := by
  obtain ⟨hh, hwd, hb⟩ := mayS_iff.1 h.may
  rw [bodyP hh h7] at hb
  simp only [Bool.and_eq_true] at hb
  have hm := (rises_up' hb.2).2 _ hr
  rw [h.got] at hm
  have := (holdersQ.1 hm).2.2
  rwa [Int.toNat_natCast] at this
set_option maxRecDepth 100000 in
set_option maxHeartbeats 4000000 in
theorem come_none (B : Bl) (n : Nat) (p : Play) (vw vg vp vy : Value) (w : World) (h : PlayAt w B n p vw vg vp vy) (hw : p.way = []) :
    Calls Try.prog 17 #[.pointer (some ⟨B.b, 0, none⟩)] w fun e w' => e = .returned (.bool true) ∧ w = w' := by
  obtain ⟨A, c, rfl, -⟩ := h.wayv
  have c14 : w.cell? ⟨B.b, 14, none⟩ = some (.slice A p.way.length c) := h.ob.cell rfl
  rw [hw] at c14
  clear h
  go_enter Try.func17, Try.ntmps17
  go_wp2
  go_ret
  exact ⟨rfl, rfl⟩
theorem comep_calls (B : Bl) (n : Nat) (W T : Int) (p q : Play) (Q : Nat → Int) (vw vg vp vy : Value) (w : World) (h : PlayAt w B n p vw vg vp vy) (hI : Inv n W T p Q) (hT : T ≤ 1099511627776) (hcf : n ≤ B.cf) (hq : comeP n p = some q) :
    Calls Try.prog 17 #[.pointer (some ⟨B.b, 0, none⟩)] w fun e w' => e = .returned (.bool true) ∧ (∃ vw' vg' vp' vy', PlayAt w' B n q vw' vg' vp' vy' ∧ ∀ i, vy'.ownBlock = some i → vy.ownBlock = some i ∨ w.heap.size ≤ i) ∧ Plays B vy w w' := by
  cases hw : p.way with
  | nil =>
    have : comeP n p = some p := by unfold comeP; rw [hw]
    rw [this] at hq
    cases hq
    refine (come_none B n p vw vg vp vy w h hw).mono ?_
    rintro e w' ⟨rfl, rfl⟩
    exact ⟨rfl, ⟨_, _, _, _, h, fun i hi => .inl hi⟩, Kept.refl _ _⟩
  | cons x rest =>
    have hl := way_len hI
    have hF := fit_may hI.may
    have hW2 := hI.W2
    have hs0 := sumF_nonneg hI.q0
    have hsq := hI.sumQ
    have ht0 := hI.tot
    have b1 : Bd n p.free := fun i hi => ⟨hI.f0 i hi, by have := sumF_le hI.f0 hi; omega⟩
    have b2 : Bd n p.held := fun i hi => by have := hI.each hi; have := hI.qle hi; omega
    have b3 : Bd n p.picked := fun i hi => by have := hI.each hi; have := hI.qle hi; omega
    obtain ⟨r, hr, hrn, q1, ev, hc, htl, hs1, hs2⟩ := come_inv hw hq
    have hx : x ∈ wayOf p.s := by rw [← hI.way, hw]; simp
    unfold wayOf at hx
    by_cases c1 : p.s.state = 1
    · rw [if_pos c1] at hx
      obtain ⟨r', hr', rfl⟩ := List.mem_map.1 hx
      obtain rfl : r' = (r : Int) := hr
      rw [hI.left] at hw hc
      rw [comeAt3 (p := { p with way := rest }) rfl (it1_of (by omega) (by omega))] at hc
      cases hc
      exact cometake_calls B n p q vw vg vp vy w h hI.n8 hcf hF (by omega) b1 b2 b3 r hrn _ _ rest hw _ (by rw [it1_of (by omega) (by omega)]) (by rw [it1_of (by omega) (by omega)]; omega) htl hs2 hs1
    rw [if_neg c1] at hx
    by_cases c4 : p.s.state = 4
    · rw [if_pos c4] at hx
      obtain ⟨r', hr', rfl⟩ := List.mem_map.1 hx
      obtain rfl : r' = (r : Int) := hr
      cases hc
      exact comefree_calls B n p q vw vg vp vy w h hI.n8 hcf hF (by omega) b1 b2 b3 r hrn _ _ rest hw htl hs2 hs1
    rw [if_neg c4] at hx
    by_cases c7 : p.s.state = 7
    · rw [if_pos c7] at hx
      obtain ⟨r', hr', rfl⟩ := List.mem_map.1 hx
      obtain rfl : r' = (r : Int) := hr
      cases hc
      have hq7 := pos79 hI (.inl c7) hr' hrn
      have hpt := (hI.pt r hrn).1 (by unfold phase; rw [if_pos c7, if_pos hr'])
      exact comepick_calls B n p q vw vg vp vy w h hI.n8 hcf hF (by omega) b1 b2 b3 r hrn _ _ rest hw (by omega) htl hs2 hs1
    rw [if_neg c7] at hx
    by_cases c9 : p.s.state = 9
    · rw [if_pos c9] at hx
      obtain ⟨r', hr', rfl⟩ := List.mem_map.1 hx
      obtain rfl : r' = (r : Int) := hr
      cases hc
      have hq9 := pos79 hI (.inr c9) hr' hrn
      have hpt := (hI.pt r hrn).2.1 (by unfold phase; rw [if_neg (by omega), if_neg (by omega), if_pos c9, if_pos hr'])
      exact comeship_calls B n p q vw vg vp vy w h hI.n8 hcf hF (by omega) b1 b2 b3 r hrn _ _ rest hw (by omega) htl hs2 hs1
    · rw [if_neg c9] at hx
      cases hx
end Sa
end Go.Proofs.Ythfpfomifebpbaa
