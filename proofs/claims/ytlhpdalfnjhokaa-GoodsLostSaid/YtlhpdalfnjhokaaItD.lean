/-
  items: the walk of May.
-/
import Derived.Test.YtlhpdalfnjhokaaItC
namespace Go.Proofs.Ytlhpdalfnjhokaa
open Go.RowKit
namespace It
attribute [local go_sem] Oper.semAt_some

/-- every text and every number is one that a program can hold -/
def Fits (l : List Item) : Prop := ∀ x ∈ l, x.1.size ≤ maxLen ∧ -9223372036854775808 ≤ x.2 ∧ x.2 ≤ 9223372036854775807
def strLe (a b : ByteArray) : Bool := Op.bytesLess a.toList b.toList || a.toList == b.toList
def okItem (x : Item) (last : ByteArray) : Bool := good x.1 && decide (1 ≤ x.2) && countOk x.2 && !strLe x.1 last
def mayTo (last : ByteArray) : List Item → Bool
  | [] => true
  | x :: r => okItem x last && mayTo x.1 r
def lastOf (last : ByteArray) : List Item → ByteArray
  | [] => last
  | x :: r => lastOf x.1 r
def may (l : List Item) : Bool := mayTo ⟨#[]⟩ l && decide (l.length ≤ 16)
theorem mayTo_snoc (last : ByteArray) (l : List Item) (x : Item) : mayTo last (l ++ [x]) = (mayTo last l && okItem x (lastOf last l)) := by
  induction l generalizing last with
  | nil => simp [mayTo, lastOf]
  | cons y r ih => simp only [List.cons_append, mayTo, lastOf, ih, Bool.and_assoc]
theorem lastOf_snoc (last : ByteArray) (l : List Item) (x : Item) : lastOf last (l ++ [x]) = x.1 := by
  induction l generalizing last with
  | nil => rfl
  | cons y r ih => simp only [List.cons_append, lastOf, ih]
theorem mayTo_prefix {last : ByteArray} {p l : List Item} (h : p <+: l) (hp : mayTo last p = false) : mayTo last l = false := by
  obtain ⟨r, rfl⟩ := h
  induction p generalizing last with
  | nil => cases hp
  | cons x p ih =>
    simp only [List.cons_append, mayTo] at hp ⊢
    cases h1 : okItem x last with
    | false => rfl
    | true => rw [h1] at hp; simp only [Bool.true_and] at hp ⊢; exact ih hp
/-- the items behind those of a list that came -/
def vals {L : List Item} (pre : List (Of L)) : List Item := pre.map (·.1)
theorem vals_snoc {L : List Item} (pre : List (Of L)) (x : Of L) : vals (pre ++ [x]) = vals pre ++ [x.1] := by simp [vals]
theorem vals_all (L : List Item) : vals L.attach = L := List.attach_map_subtype_val L
theorem vals_prefix {L : List Item} {pre : List (Of L)} (h : pre <+: L.attach) : vals pre <+: L := by
  have := h.map (f := fun x : Of L => x.1)
  rw [List.attach_map_subtype_val] at this
  exact this

set_option maxRecDepth 100000 in
set_option maxHeartbeats 4000000 in
theorem may_calls (L : List Item) (v : Value) (w : World) (hI : ItemsAt w 0 w.heap.size v L) (hF : Fits L) :
    Calls Try.prog 39 #[v] w fun e w' => e = .returned (.bool (may L)) ∧ Below w.heap.size w w' := by
  obtain ⟨A, c, rfl, hc1, hc2⟩ := hI.form
  unfold maxLen at hc2
  refine (callsIn_wide (n := 6)).1 ?_
  refine callsIn_of_wp_marks Try.func39 rfl trivial ?_ rfl
  simp only [Try.ntmps39, List.size_toArray, List.length_cons, List.length_nil, Nat.reduceAdd, Nat.reduceSub, Array.replicate_succ, Array.replicate_zero, List.push_toArray, List.append_toArray, List.nil_append, List.cons_append]
  gi_wp2_with (refine ⟨trivial, ?_⟩; gi_at_call 42; refine (callsIn_wide.2 (all_calls A _ c _)).mono ?_; rintro e w' ⟨rfl, rfl⟩)
  have b0 : Boxed (((w.alloc (.cells #[.bool false] 4)).alloc (.cells #[.string ⟨#[]⟩] 9)).alloc (.cells #[.slice A L.length c] 55)) w.heap.size 4 (.bool false) := ((Boxed.new w _ _).alloc _).alloc _
  have b1 : Boxed (((w.alloc (.cells #[.bool false] 4)).alloc (.cells #[.string ⟨#[]⟩] 9)).alloc (.cells #[.slice A L.length c] 55)) (w.heap.size + 1) 9 (.string ⟨#[]⟩) := by
    have := (Boxed.new (w.alloc (.cells #[.bool false] 4)) 9 (.string ⟨#[]⟩)).alloc (.cells #[.slice A L.length c] 55)
    rwa [World.size_alloc] at this
  have b2 : Boxed (((w.alloc (.cells #[.bool false] 4)).alloc (.cells #[.string ⟨#[]⟩] 9)).alloc (.cells #[.slice A L.length c] 55)) (w.heap.size + 1 + 1) 55 (.slice A L.length c) := by
    have := Boxed.new ((w.alloc (.cells #[.bool false] 4)).alloc (.cells #[.string ⟨#[]⟩] 9)) 55 (.slice A L.length c)
    rwa [World.size_alloc, World.size_alloc] at this
  have hB0 : Below w.heap.size w (((w.alloc (.cells #[.bool false] 4)).alloc (.cells #[.string ⟨#[]⟩] 9)).alloc (.cells #[.slice A L.length c] 55)) :=
    (((Below.refl _ w).alloc (Nat.le_refl _) _).alloc (by simp) _).alloc (by simp; omega) _
  have hsz0 : w.heap.size + 3 = (((w.alloc (.cells #[.bool false] 4)).alloc (.cells #[.string ⟨#[]⟩] 9)).alloc (.cells #[.slice A L.length c] 55)).heap.size := by simp
  generalize (((w.alloc (.cells #[.bool false] 4)).alloc (.cells #[.string ⟨#[]⟩] 9)).alloc (.cells #[.slice A L.length c] 55)) = w0 at *
  refine range_all (n := 6) rfl trivial (by omega) (Bs := w.heap.size + 1 + 1) (n₀ := w.heap.size) (v := .slice A L.length c) (L := L) rfl rfl (by omega) (by omega) b2.cell (hI.below hB0)
    (fun pre W => mayTo ⟨#[]⟩ (vals pre) = true ∧ Boxed W w.heap.size 4 (.bool false) ∧ Boxed W (w.heap.size + 1) 9 (.string (lastOf ⟨#[]⟩ (vals pre))))
    (fun c pre W => c = .ret ∧ mayTo ⟨#[]⟩ (vals pre) = false ∧ Boxed W w.heap.size 4 (.bool false))
    (Own.from (fun s A B row hs hg hr => ⟨hs.1, boxed_keep hs.2.1 hg hr, boxed_keep hs.2.2 hg hr⟩) _)
    (fun c => Own.from (fun s A B row hs hg hr => ⟨hs.1, hs.2.1, boxed_keep hs.2.2 hg hr⟩) _)
    ⟨rfl, b0, b1⟩
    (fun x => { tmps := #[.slice A L.length c, undef, .pointer (some ⟨w.heap.size, 0, none⟩), .pointer (some ⟨w.heap.size + 1, 0, none⟩), .string x.1.1, .int .i64 x.1.2, .slice A L.length c, .func (.func 60) #[] #[.pointer (some ⟨w.heap.size + 1 + 1, 0, none⟩)], .string x.1.1, .int .i64 x.1.2, undef, undef, undef, undef, undef, undef, undef, undef, undef, undef, undef, undef, undef, undef, undef, undef, undef, undef, undef, undef, undef], defers := [] }) ?assign ?body ?done ?stop
  case assign =>
    intro l x W K hK
    dsimp only [enc2]
    gi_wp2
    exact hK
  case body =>
    rintro l pre ⟨⟨xs, xn⟩, hx⟩ W ⟨hm, hb0, hb1⟩ hB hsz hlen
    have hfit := hF _ hx
    have hS := Lib.hid (show mayTo ⟨#[]⟩ (vals (pre ++ [⟨(xs, xn), hx⟩])) = (mayTo ⟨#[]⟩ (vals pre) && okItem (xs, xn) (lastOf ⟨#[]⟩ (vals pre))) by rw [vals_snoc, mayTo_snoc])
    have hL := Lib.hid (show lastOf ⟨#[]⟩ (vals (pre ++ [⟨(xs, xn), hx⟩])) = xs by rw [vals_snoc, lastOf_snoc])
    have hO := Lib.hid (show ∀ last, okItem (xs, xn) last = (good xs && decide (1 ≤ xn) && countOk xn && !(Op.bytesLess xs.toList last.toList || xs.toList == last.toList)) from fun _ => rfl)
    have HM := Lib.hid hm
    clear hm
    dsimp only at hfit ⊢
    have hc0 := hb0.cell
    have hf0 := hb0.frozen
    have hc1 := hb1.cell
    have hf1 := hb1.frozen
    generalize lastOf ⟨#[]⟩ (vals pre) = last at *
    have hO2 := Lib.hid (hO.out last)
    generalize okItem (xs, xn) last = ok at *
    have cG := Lib.hid (fun W => good_calls xs W hfit.1)
    generalize good xs = g at *
    have cN := Lib.hid (fun W => count_calls xn W)
    generalize countOk xn = cn at *
    by_cases hn1 : xn < 1
    · cases g with
      | false =>
        gi_wp2_with (first | (refine ⟨trivial, ?_⟩; gi_at_call 58; refine (CallsIn.inRound l (callsIn_wide.2 (cG.out _))).mono ?_; rintro e W1 ⟨rfl, h1⟩; have hb0' := boxed_below hb0 h1; have hb1' := boxed_below hb1 h1; have hc0' := hb0'.cell; have hf0' := hb0'.frozen; have hc1' := hb1'.cell; have hf1' := hb1'.frozen; clear hc0 hf0 hc1 hf1) | (refine ⟨trivial, ?_⟩; gi_at_call 37; refine (CallsIn.inRound l (callsIn_wide.2 (cN.out _))).mono ?_; rintro e W2 ⟨rfl, rfl⟩) | (refine ⟨trivial, ?_⟩))
        exact ⟨keeps_set (keeps_below _ h1) _ _, (h1.mono (B' := w.heap.size) (by omega)).setCell (p := ⟨w.heap.size, 0, none⟩) (Nat.le_refl _) _, rfl, by rw [hS.out, hO2.out]; simp [*], hb0'.set _⟩
      | true =>
        gi_wp2_with (first | (refine ⟨trivial, ?_⟩; gi_at_call 58; refine (CallsIn.inRound l (callsIn_wide.2 (cG.out _))).mono ?_; rintro e W1 ⟨rfl, h1⟩; have hb0' := boxed_below hb0 h1; have hb1' := boxed_below hb1 h1; have hc0' := hb0'.cell; have hf0' := hb0'.frozen; have hc1' := hb1'.cell; have hf1' := hb1'.frozen; clear hc0 hf0 hc1 hf1) | (refine ⟨trivial, ?_⟩; gi_at_call 37; refine (CallsIn.inRound l (callsIn_wide.2 (cN.out _))).mono ?_; rintro e W2 ⟨rfl, rfl⟩) | (refine ⟨trivial, ?_⟩))
        have hd : decide (1 ≤ xn) = false := by simp; omega
        exact ⟨keeps_set (keeps_below _ h1) _ _, (h1.mono (B' := w.heap.size) (by omega)).setCell (p := ⟨w.heap.size, 0, none⟩) (Nat.le_refl _) _, rfl, by rw [hS.out, hO2.out]; simp [*], hb0'.set _⟩
    · cases g with
      | false =>
        gi_wp2_with (first | (refine ⟨trivial, ?_⟩; gi_at_call 58; refine (CallsIn.inRound l (callsIn_wide.2 (cG.out _))).mono ?_; rintro e W1 ⟨rfl, h1⟩; have hb0' := boxed_below hb0 h1; have hb1' := boxed_below hb1 h1; have hc0' := hb0'.cell; have hf0' := hb0'.frozen; have hc1' := hb1'.cell; have hf1' := hb1'.frozen; clear hc0 hf0 hc1 hf1) | (refine ⟨trivial, ?_⟩; gi_at_call 37; refine (CallsIn.inRound l (callsIn_wide.2 (cN.out _))).mono ?_; rintro e W2 ⟨rfl, rfl⟩) | (refine ⟨trivial, ?_⟩))
        exact ⟨keeps_set (keeps_below _ h1) _ _, (h1.mono (B' := w.heap.size) (by omega)).setCell (p := ⟨w.heap.size, 0, none⟩) (Nat.le_refl _) _, rfl, by rw [hS.out, hO2.out]; simp [*], hb0'.set _⟩
      | true =>
        cases cn with
        | false =>
          gi_wp2_with (first | (refine ⟨trivial, ?_⟩; gi_at_call 58; refine (CallsIn.inRound l (callsIn_wide.2 (cG.out _))).mono ?_; rintro e W1 ⟨rfl, h1⟩; have hb0' := boxed_below hb0 h1; have hb1' := boxed_below hb1 h1; have hc0' := hb0'.cell; have hf0' := hb0'.frozen; have hc1' := hb1'.cell; have hf1' := hb1'.frozen; clear hc0 hf0 hc1 hf1) | (refine ⟨trivial, ?_⟩; gi_at_call 37; refine (CallsIn.inRound l (callsIn_wide.2 (cN.out _))).mono ?_; rintro e W2 ⟨rfl, rfl⟩) | (refine ⟨trivial, ?_⟩))
          exact ⟨keeps_set (keeps_below _ h1) _ _, (h1.mono (B' := w.heap.size) (by omega)).setCell (p := ⟨w.heap.size, 0, none⟩) (Nat.le_refl _) _, rfl, by rw [hS.out, hO2.out]; simp [*], hb0'.set _⟩
        | true =>
          generalize hle : (Op.bytesLess xs.toList last.toList || xs.toList == last.toList) = le at *
          cases le with
          | true =>
            gi_wp2_with (first | (refine ⟨trivial, ?_⟩; gi_at_call 58; refine (CallsIn.inRound l (callsIn_wide.2 (cG.out _))).mono ?_; rintro e W1 ⟨rfl, h1⟩; have hb0' := boxed_below hb0 h1; have hb1' := boxed_below hb1 h1; have hc0' := hb0'.cell; have hf0' := hb0'.frozen; have hc1' := hb1'.cell; have hf1' := hb1'.frozen; clear hc0 hf0 hc1 hf1) | (refine ⟨trivial, ?_⟩; gi_at_call 37; refine (CallsIn.inRound l (callsIn_wide.2 (cN.out _))).mono ?_; rintro e W2 ⟨rfl, rfl⟩) | (refine ⟨trivial, ?_⟩))
            exact ⟨keeps_set (keeps_below _ h1) _ _, (h1.mono (B' := w.heap.size) (by omega)).setCell (p := ⟨w.heap.size, 0, none⟩) (Nat.le_refl _) _, rfl, by rw [hS.out, hO2.out]; simp [*], hb0'.set _⟩
          | false =>
            have hd : decide (1 ≤ xn) = true := by simp; omega
            have HD := Lib.hid hd
            clear hd
            gi_wp2_with (first | (refine ⟨trivial, ?_⟩; gi_at_call 58; refine (CallsIn.inRound l (callsIn_wide.2 (cG.out _))).mono ?_; rintro e W1 ⟨rfl, h1⟩; have hb0' := boxed_below hb0 h1; have hb1' := boxed_below hb1 h1; have hc0' := hb0'.cell; have hf0' := hb0'.frozen; have hc1' := hb1'.cell; have hf1' := hb1'.frozen; clear hc0 hf0 hc1 hf1) | (refine ⟨trivial, ?_⟩; gi_at_call 37; refine (CallsIn.inRound l (callsIn_wide.2 (cN.out _))).mono ?_; rintro e W2 ⟨rfl, rfl⟩) | (refine ⟨trivial, ?_⟩))
            exact ⟨keeps_set (keeps_below _ h1) _ _, (h1.mono (B' := w.heap.size) (by omega)).setCell (p := ⟨w.heap.size + 1, 0, none⟩) (by simp) _, by rw [hS.out, hO2.out, HM.out, HD.out]; rfl, hb0'.other (by simp) _, by rw [hL.out]; exact hb1'.set _⟩
  case done =>
    rintro D W hD ⟨hm, hb0, hb1⟩ hB hK
    have HM := Lib.hid (show may L = decide (L.length ≤ 16) by unfold may; rw [vals_all] at hm; rw [hm]; rfl)
    clear hm
    have hc0 := hb0.cell
    have hf0 := hb0.frozen
    gi_wp2
    have hb0' := hb0.set (.bool (decide ((L.length : Int) ≤ 16)))
    have hK' := (KeepsOthers.setCell W ⟨w.heap.size, 0, none⟩ (.bool (decide ((L.length : Int) ≤ 16)))).same D _ hK rfl
    refine ⟨by simp, .inl ⟨_, _, rfl, run_takeDeferred hK', ?_⟩⟩
    have hc5 := (boxed_end hb0' hK').cell
    refine ⟨.bool (decide ((L.length : Int) ≤ 16)), ?_, ret1 (boo ?_), below_end ((hB0.trans hB).setCell (p := ⟨w.heap.size, 0, none⟩) (Nat.le_refl _) _) (by omega) hK'⟩
    · simp [results, Try.f39, go_sem, hc5]
    · rw [HM.out]; exact decide_eq_decide.2 (by omega)
  case stop =>
    rintro D c pre W hD hpre ⟨rfl, hm, hb0⟩ hB hK
    have HM := Lib.hid (show may L = false by unfold may; rw [mayTo_prefix (vals_prefix hpre) hm]; rfl)
    clear hm
    gi_wp2
    refine ⟨by simp, .inl ⟨_, _, rfl, run_takeDeferred hK, ?_⟩⟩
    have hc5 := (boxed_end hb0 hK).cell
    refine ⟨.bool false, ?_, ret1 (boo HM.out.symm), below_end (hB0.trans hB) (by omega) hK⟩
    simp [results, Try.f39, go_sem, hc5]
end It
end Go.Proofs.Ytlhpdalfnjhokaa
