/-
  items: the code of a list.
-/
import Derived.Test.YtloabanhoeaidaaItBB
namespace Go.Proofs.Ytloabanhoeaidaa
open Go.RowKit
namespace It
open Ce
attribute [local go_sem] Oper.semAt_some

theorem _root_.Go.Proofs.Ytloabanhoeaidaa.Ce.Mk.wide {w : World} {bm : Nat} {Fr : Nat → Prop} {s : List UInt8 × Bool} (h : Mk w bm Fr s) :
    ∃ Fr', (∀ i, Fr i → Fr' i) ∧ (∀ i o, w.heap[i]? = some o → o.isCells = false → Fr' i) ∧ Mk w bm Fr' s := by
  obtain ⟨h1, h2, h3, v, hO, hR, hG⟩ := h
  refine ⟨fun i => i < w.heap.size ∧ i ≠ bm ∧ v.ownBlock ≠ some i, fun i hi => ⟨h3 i hi, fun e => h2 (e ▸ hi), fun e => hG i e hi⟩, fun i o ho hc => ⟨(Array.getElem?_eq_some_iff.1 ho).1, fun e => ?_, fun e => ?_⟩, h1, fun h => h.2.1 rfl, fun i hi => hi.1, v, hO, hR, fun g hg h => h.2.2 hg⟩
  · subst e
    rw [show w.heap[i]? = _ from hO] at ho
    cases ho
    cases hc
  · rcases hR.2 with ⟨rfl, _⟩ | ⟨g, cap, cur, rfl, _, hgb, _⟩
    · cases e
    · obtain rfl : g = i := by simpa [Value.ownBlock] using e
      rw [hgb] at ho
      cases ho
      cases hc
theorem _root_.Go.Proofs.Ytloabanhoeaidaa.Ce.Mk.narrow {w : World} {bm : Nat} {Fr Fr' : Nat → Prop} {s : List UInt8 × Bool} (h : Mk w bm Fr s) (hF : ∀ i, Fr' i → Fr i) : Mk w bm Fr' s := by
  obtain ⟨h1, h2, h3, v, hO, hR, hG⟩ := h
  exact ⟨h1, fun h => h2 (hF _ h), fun i hi => h3 i (hF i hi), v, hO, hR, fun g hg h => hG g hg (hF _ h)⟩
theorem _root_.Go.Proofs.Ytloabanhoeaidaa.Ce.Mk.keep {A B : World} {row : Option Nat} {bm : Nat} {Fr : Nat → Prop} {s : List UInt8 × Bool} (h : Mk A bm Fr s) (hg : A.grownBy B row) (hr : ∀ r, row = some r → ∃ o : Obj, A.heap[r]? = some o ∧ o.isCells = false) : Mk B bm Fr s := by
  obtain ⟨h1, h2, h3, v, hO, hR, hG⟩ := h
  refine ⟨h1, h2, fun i hi => Nat.lt_of_lt_of_le (h3 i hi) hg.size, v, hO.kept hg (fun e => ?_), row_keep hR hg hr, hG⟩
  obtain ⟨o, ho, hc⟩ := hr bm e.symm
  rw [show A.heap[bm]? = _ from hO] at ho
  cases ho
  cases hc
theorem keeps_kept {A B : World} {n : Nat} {Fr : Nat → Prop} (h : Kept Fr A B) (hF : ∀ i o, A.heap[i]? = some o → o.isCells = false → Fr i) : KeepsFrom n A B :=
  ⟨h.size, fun k o _ hk hc => (h.block k (hF k o hk hc)).trans hk⟩
theorem kept_boxed {A B : World} {Fr : Nat → Prop} {b : Nat} {t : TypeId} {v : Value} (h : Kept Fr A B) (hb : Boxed A b t v) (hF : Fr b) : Boxed B b t v := (h.block b hF).trans hb

def codeI (L : List Item) : List UInt8 := if may L then Ce.encI L else []
/-- the cells so far -/
def encTo {L : List Item} (pre : List (Of L)) : List UInt8 := numC L.length ++ cellsI (vals pre)

set_option maxRecDepth 100000 in
set_option maxHeartbeats 4000000 in
theorem encode_calls (L : List Item) (v : Value) (w : World) (hI : ItemsAt w 0 w.heap.size v L) (hF : Fits L) :
    Calls Try.prog 35 #[v] w fun e w' => (∃ u, e = .returned (.tuple #[u, .int .i64 (if may L then 0 else 60)]) ∧ w'.ownsRow w.heap.size 5 1 u (codeI L).length (bytesV (codeI L))) ∧ Below w.heap.size w w' := by
  have cM := Lib.hid (may_calls L v w hI hF)
  obtain ⟨A, c, rfl, hc1, hc2⟩ := hI.form
  unfold maxLen at hc2
  have HC := Lib.hid (show codeI L = if may L then Ce.encI L else [] from rfl)
  have HE := Lib.hid (fun h => encI_len (l := L) h)
  have HSm := Lib.hid (fun h => may_short (L := L) h)
  have H16 := Lib.hid (fun h => may_len (l := L) h)
  generalize codeI L = C at *
  generalize hml : may L = ml at *
  have HMay := Lib.hid hml
  clear hml
  refine (callsIn_wide (n := 6)).1 ?_
  refine callsIn_of_wp_marks Try.func35 rfl trivial ?_ rfl
  simp only [Try.ntmps35, List.size_toArray, List.length_cons, List.length_nil, Nat.reduceAdd, Nat.reduceSub, Array.replicate_succ, Array.replicate_zero, List.push_toArray, List.append_toArray, List.nil_append, List.cons_append]
  cases ml with
  | false =>
    obtain rfl : C = [] := by rw [HC.out]; rfl
    gi_wp2_with (refine ⟨trivial, ?_⟩; gi_at_call 24; refine (callsIn_wide.2 cM.out).mono ?_; rintro e W1 ⟨rfl, hb1⟩)
    refine ⟨.tuple #[.slice none 0 0, .int .i64 60], ?_, ⟨_, rfl, World.ownsRow_nil _ _ _ _⟩, hb1⟩
    simp [results, Try.f35, go_sem]
  | true =>
    have h16 := H16.out rfl
    have cNw := Lib.hid (fun W => new_calls W)
    have cNm := Lib.hid (fun n bm Fr s W hM h0 h1 => mnum_calls n bm Fr s W hM h0 h1)
    gi_wp2_with (first
      | (refine ⟨trivial, ?_⟩; gi_at_call 24; refine (callsIn_wide.2 cM.out).mono ?_; rintro e W1 ⟨rfl, hb1⟩)
      | (refine ⟨trivial, ?_⟩; gi_at_call 58; refine (callsIn_wide.2 (cNw.out W1)).mono ?_; rintro e W2 ⟨rfl, hW2⟩; have hM2 : Mk W2 W1.heap.size (fun i => i < W1.heap.size) ([], false) := (hW2 ▸ Mk.new W1 _ (fun i h => h)); have hb2 : Below w.heap.size w W2 := (hW2 ▸ hb1.alloc hb1.size _); clear hW2)
      | (refine ⟨trivial, ?_⟩; gi_at_call 59; refine (callsIn_wide.2 (cNm.out L.length W1.heap.size _ _ W2 hM2 (by omega) (by omega))).mono ?_; rintro e W3 ⟨rfl, hM3, hK3⟩)
      | (refine ⟨trivial, ?_⟩; gi_at_call 39; refine (callsIn_wide.2 (all_calls A _ c _)).mono ?_; rintro e w' ⟨rfl, rfl⟩))
    have HG := Lib.hid (fun x (hx : x ∈ L) => (good_size ((may_iff L).1 HMay.out |>.ok x hx).1).2)
    have hs1 := hb1.size
    have hs2 := hb2.size
    have hs3 := hK3.size
    have hlt2 : W1.heap.size < W3.heap.size := hM3.lt
    have hb3 : Below w.heap.size w W3 := hb2.trans (hK3.below (fun i hi => by omega))
    have b0 : Boxed ((W3.alloc (.cells #[.pointer (some ⟨W1.heap.size, 0, none⟩)] 78)).alloc (.cells #[.slice A L.length c] 22)) W3.heap.size 78 (.pointer (some ⟨W1.heap.size, 0, none⟩)) := (Boxed.new W3 _ _).alloc _
    have b1 : Boxed ((W3.alloc (.cells #[.pointer (some ⟨W1.heap.size, 0, none⟩)] 78)).alloc (.cells #[.slice A L.length c] 22)) (W3.heap.size + 1) 22 (.slice A L.length c) := by
      have := Boxed.new (W3.alloc (.cells #[.pointer (some ⟨W1.heap.size, 0, none⟩)] 78)) 22 (.slice A L.length c)
      rwa [World.size_alloc] at this
    have hB4 : Below W3.heap.size W3 ((W3.alloc (.cells #[.pointer (some ⟨W1.heap.size, 0, none⟩)] 78)).alloc (.cells #[.slice A L.length c] 22)) := (((Below.refl _ W3).alloc (Nat.le_refl _) _).alloc (by simp) _)
    have hsz4 : W3.heap.size + 2 = ((W3.alloc (.cells #[.pointer (some ⟨W1.heap.size, 0, none⟩)] 78)).alloc (.cells #[.slice A L.length c] 22)).heap.size := by simp
    have hM4 : Mk ((W3.alloc (.cells #[.pointer (some ⟨W1.heap.size, 0, none⟩)] 78)).alloc (.cells #[.slice A L.length c] 22)) W1.heap.size (fun i => i < W1.heap.size ∨ i = W3.heap.size) (encTo (L := L) [], false) := by
      have e : encTo (L := L) [] = [] ++ numC L.length := by simp [encTo, vals, cellsI]
      rw [e, ← mPut_short (by have := (numC_len L.length).2; simp; omega)]
      exact hM3.later hB4 fun i hi => ⟨hi.elim .inl (fun e => .inr (by omega)), by rcases hi with h | h <;> omega⟩
    have hB := hb3.trans (hB4.mono hb3.size)
    generalize ((W3.alloc (.cells #[.pointer (some ⟨W1.heap.size, 0, none⟩)] 78)).alloc (.cells #[.slice A L.length c] 22)) = W4 at *
    clear hM3 hK3 hM2 hb2 cNm cNw cM hB4
    refine range_all (n := 6) rfl trivial (by omega) (Bs := W3.heap.size + 1) (n₀ := w.heap.size) (v := .slice A L.length c) (L := L) rfl rfl (by omega) (by omega) b1.cell (hI.below hB)
      (fun pre W => Boxed W W3.heap.size 78 (.pointer (some ⟨W1.heap.size, 0, none⟩)) ∧ Mk W W1.heap.size (fun i => i < W1.heap.size ∨ i = W3.heap.size) (encTo pre, false))
      (fun _ _ _ => False)
      (Own.from (fun s A B row hs hg hr => ⟨boxed_keep hs.1 hg hr, hs.2.keep hg hr⟩) _)
      (fun c => Own.from (fun s A B row hs hg hr => hs.elim) _)
      ⟨b0, hM4⟩
      (fun x => { tmps := #[.slice A L.length c, undef, .slice none 0 0, .int .i64 0, .pointer (some ⟨W3.heap.size, 0, none⟩), .string x.1.1, .int .i64 x.1.2, .slice A L.length c, .bool true, .bool false, .pointer (some ⟨W1.heap.size, 0, none⟩), .slice A L.length c, .int .i64 L.length, .pointer (some ⟨W1.heap.size, 0, none⟩), .slice A L.length c, .func (.func 63) #[] #[.pointer (some ⟨W3.heap.size + 1, 0, none⟩)], .string x.1.1, .int .i64 x.1.2, undef, undef, undef, undef, undef, undef, undef, undef, undef], defers := [] }) ?assign ?body ?done ?stop
    case assign =>
      intro l x W K hK
      dsimp only [enc2]
      gi_wp2
      exact hK
    case body =>
      rintro l pre ⟨⟨xs, xn⟩, hx⟩ W ⟨hb0, hM⟩ hBW hsz hlen
      have hfit := hF _ hx
      have hxs := HG.out _ hx
      obtain ⟨Fr', hF1, hF2, hMw⟩ := hM.wide
      have hc0 := hb0.cell
      dsimp only at hfit hxs ⊢
      have cT := Lib.hid (mtext_calls xs W1.heap.size Fr' (encTo pre, false) W hMw (by omega))
      have hlen2 : (cellsI (vals (pre ++ [⟨(xs, xn), hx⟩]))).length ≤ (vals (pre ++ [⟨(xs, xn), hx⟩])).length * 34 := cellsI_len fun y hy => by
        obtain ⟨z, _, rfl⟩ := List.mem_map.1 hy
        exact HG.out _ z.2
      have hE : encTo (pre ++ [⟨(xs, xn), hx⟩]) = encTo pre ++ (numC xs.size ++ xs.data.toList) ++ numC xn := by
        unfold encTo
        rw [vals_snoc, cellsI_snoc]
        simp [List.append_assoc]
      have hbig : (encTo (pre ++ [⟨(xs, xn), hx⟩])).length ≤ 1000 := by
        unfold encTo
        rw [List.length_append]
        have h1 := (numC_len L.length).2
        have h2 : (vals (pre ++ [⟨(xs, xn), hx⟩])).length = pre.length + 1 := by simp [vals]
        rw [h2] at hlen2
        omega
      rw [hE] at hbig
      simp only [List.length_append] at hbig
      have hp1 : Ce.mPut (encTo pre, false) (numC xs.size ++ xs.data.toList) = (encTo pre ++ (numC xs.size ++ xs.data.toList), false) := mPut_short (by simp only [List.length_append]; omega)
      rw [hp1] at cT
      have hp2 : Ce.mPut (encTo pre ++ (numC xs.size ++ xs.data.toList), false) (numC xn) = (encTo (pre ++ [⟨(xs, xn), hx⟩]), false) := by
        rw [hE]
        exact mPut_short (by simp only [List.length_append]; omega)
      have HP2 := Lib.hid hp2
      clear hp1 hp2 hE hlen2 hbig hMw hM
      gi_wp2_with (first
        | (refine ⟨trivial, ?_⟩; gi_at_call 60; refine (CallsIn.inRound l (callsIn_wide.2 cT.out)).mono ?_; rintro e W5 ⟨rfl, hM5, hK5⟩)
        | (refine ⟨trivial, ?_⟩; gi_at_call 59; refine (CallsIn.inRound l (callsIn_wide.2 (mnum_calls xn W1.heap.size Fr' _ W5 hM5 hfit.2.1 hfit.2.2))).mono ?_; rintro e W6 ⟨rfl, hM6, hK6⟩))
      rw [HP2.out] at hM6
      have hKK := hK5.trans hK6
      exact ⟨keeps_kept hKK hF2, hKK.below (fun i hi => hF1 i (.inl (by omega))), kept_boxed hKK hb0 (hF1 _ (.inr rfl)), hM6.narrow hF1⟩
    case done =>
      rintro D W hD ⟨hb0, hM⟩ hBW hK
      have hE : encTo L.attach = C := by
        unfold encTo
        rw [vals_all, HC.out, if_pos trivial]
        rfl
      rw [hE] at hM
      clear hE
      have hc0 := hb0.cell
      have cD := Lib.hid (mdone_calls W1.heap.size _ (C, false) W hM rfl)
      clear hM
      gi_wp2_with (refine ⟨trivial, ?_⟩; gi_at_call 61; refine (callsIn_wide.2 cD.out).mono ?_; rintro e W5 ⟨⟨u, rfl, hu⟩, hb5⟩)
      have hK5 := (hb5.block D (Array.getElem?_eq_some_iff.1 hK).1).trans hK
      have hBB := (hB.trans hBW).trans (hb5.mono (hB.trans hBW).size)
      refine ⟨by simp, .inl ⟨_, _, rfl, run_takeDeferred hK5, ?_⟩⟩
      refine ⟨.tuple #[u, .int .i64 0], ?_, ⟨_, rfl, ownsRow_putObj (rowWide hu (hB.trans hBW).size) _ hK5 rfl⟩, below_end hBB (by omega) hK5⟩
      simp [results, Try.f35, go_sem]
    case stop =>
      rintro D c pre W hD hpre h
      exact h.elim
end It
end Go.Proofs.Ytloabanhoeaidaa
