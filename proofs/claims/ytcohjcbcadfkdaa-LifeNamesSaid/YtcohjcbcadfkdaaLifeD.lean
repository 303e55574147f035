/-
  life: the walk of Reach, with its closure that calls itself.
-/
import Derived.Test.YtcohjcbcadfkdaaLifeC
import Derived.Test.YtcohjcbcadfkdaaMaps
import Derived.Laws.EntriesVeiled
namespace Go.Proofs.Ytcohjcbcadfkdaa
open Go.RowKit Go.Maps
namespace Life

abbrev Seen := List (Int × Value)
def visTo (rec : Seen → Int → Seen) (m : Seen) (l : List Int) : Nat → Seen
  | 0 => m
  | i + 1 => if (mGet (visTo rec m l i) (l.getD i 0)).isSome then visTo rec m l i else rec (mPut intK (visTo rec m l i) (l.getD i 0) (.bool true)) (l.getD i 0)
def vis : Nat → Seen → Int → Seen
  | 0 => fun m _ => m
  | f + 1 => fun m s => visTo (vis f) m (behind s) (behind s).length

/-- what is kept of the states that were seen -/
def Good (m : Seen) : Prop := ∀ p ∈ m, 1 ≤ p.1 ∧ p.1 ≤ 10 ∧ p.2 = .bool true
theorem behind_in {n : Int} {j : Nat} (h : j < (behind n).length) : 1 ≤ (behind n).getD j 0 ∧ (behind n).getD j 0 ≤ 10 := by
  have key : ∀ l : List Int, (∀ x ∈ l, 1 ≤ x ∧ x ≤ 10) → j < l.length → 1 ≤ l.getD j 0 ∧ l.getD j 0 ≤ 10 := by
    intro l hl hj
    have : l.getD j 0 = l[j] := by simp [hj]
    rw [this]
    exact hl _ (List.getElem_mem hj)
  refine key _ ?_ h
  clear h key
  rcases @nine n with h | h | h | h | h | h | h | h
  all_goals try subst h
  all_goals first | decide | (rw [behind_out h]; simp)
theorem mIns_mem {m : Seen} {k : Int} {v : Value} {p : Int × Value} (h : p ∈ mIns intK k v m) : p = (k, v) ∨ p ∈ m := by
  induction m with
  | nil => simpa [mIns] using h
  | cons q r ih =>
    unfold mIns at h
    split at h
    · rcases List.mem_cons.1 h with h | h
      · exact .inl h
      · exact .inr h
    · rcases List.mem_cons.1 h with h | h
      · exact .inr (by rw [h]; simp)
      · rcases ih h with h | h
        · exact .inl h
        · exact .inr (List.mem_cons_of_mem _ h)
theorem Good.put {m : Seen} (h : Good m) {x : Int} (h1 : 1 ≤ x) (h2 : x ≤ 10) : Good (mPut intK m x (.bool true)) := by
  intro p hp
  rcases mIns_mem hp with hp | hp
  · subst hp; exact ⟨h1, h2, rfl⟩
  · exact h p (List.mem_filter.1 hp).1
theorem mDel_none {m : Seen} {x : Int} (h : (mGet m x).isSome = false) : mDel m x = m := by
  unfold mDel
  rw [List.filter_eq_self]
  intro p hp
  simp only [Bool.not_eq_true', decide_eq_false_iff_not]
  intro e
  unfold mGet at h
  have : (m.find? (fun p => decide (p.1 = x))).isSome = true := List.find?_isSome.2 ⟨p, hp, by simp [e]⟩
  cases hf : m.find? (fun p => decide (p.1 = x)) with
  | none => rw [hf] at this; cases this
  | some q => rw [hf] at h; cases h
theorem put_len {m : Seen} {x : Int} (h : (mGet m x).isSome = false) : (mPut intK m x (.bool true)).length = m.length + 1 := by
  unfold mPut; rw [mIns_length, mDel_none h]
theorem Good.vis {f : Nat} : ∀ {m : Seen} {s : Int}, Good m → Good (vis f m s) ∧ m.length ≤ (vis f m s).length := by
  induction f with
  | zero => intro m s h; exact ⟨h, Nat.le_refl _⟩
  | succ f ih =>
    intro m s h
    have key : ∀ i, i ≤ (behind s).length → Good (visTo (Life.vis f) m (behind s) i) ∧ m.length ≤ (visTo (Life.vis f) m (behind s) i).length := by
      intro i
      induction i with
      | zero => intro _; exact ⟨h, Nat.le_refl _⟩
      | succ i ih2 =>
        intro hi
        obtain ⟨g1, g2⟩ := ih2 (by omega)
        simp only [visTo]
        split
        · exact ⟨g1, g2⟩
        · rename_i hn
          have hb := behind_in (n := s) (j := i) (by omega)
          obtain ⟨k1, k2⟩ := ih (s := (behind s).getD i 0) (g1.put hb.1 hb.2)
          have := put_len (m := visTo (Life.vis f) m (behind s) i) (x := (behind s).getD i 0) (by simpa using hn)
          exact ⟨k1, by omega⟩
    exact key _ (Nat.le_refl _)
theorem visTo_good {f : Nat} {m : Seen} {s : Int} (h : Good m) : ∀ i, i ≤ (behind s).length → Good (visTo (Life.vis f) m (behind s) i) ∧ m.length ≤ (visTo (Life.vis f) m (behind s) i).length := by
  intro i
  induction i with
  | zero => intro _; exact ⟨h, Nat.le_refl _⟩
  | succ i ih2 =>
    intro hi
    obtain ⟨g1, g2⟩ := ih2 (by omega)
    simp only [visTo]
    split
    · exact ⟨g1, g2⟩
    · rename_i hn
      have hb := behind_in (n := s) (j := i) (by omega)
      obtain ⟨k1, k2⟩ := Good.vis (f := f) (s := (behind s).getD i 0) (g1.put hb.1 hb.2)
      have := put_len (m := visTo (Life.vis f) m (behind s) i) (x := (behind s).getD i 0) (by simpa using hn)
      exact ⟨k1, by omega⟩
theorem sorted_len : ∀ (m : Seen) (a : Int), m.Pairwise (fun p q => p.1 < q.1) → (∀ p ∈ m, a ≤ p.1 ∧ p.1 ≤ 10) → (m.length : Int) ≤ 11 - a ∨ m = [] := by
  intro m
  induction m with
  | nil => intro a _ _; exact .inr rfl
  | cons p r ih =>
    intro a hs hb
    left
    rw [List.pairwise_cons] at hs
    have h0 := hb p (by simp)
    rcases ih (p.1 + 1) hs.2 (fun q hq => ⟨by have := hs.1 q hq; omega, (hb q (List.mem_cons_of_mem _ hq)).2⟩) with h | h
    · simp only [List.length_cons]; omega
    · subst h; simp; omega
theorem good_len {m : Seen} (h : Good m) (hs : m.Pairwise (fun p q => intK.lt p.1 q.1 = true)) : m.length ≤ 10 := by
  have hs' : m.Pairwise (fun p q => p.1 < q.1) := hs.imp (by intro a b h; exact of_decide_eq_true h)
  rcases sorted_len m 1 hs' (fun p hp => ⟨(h p hp).1, (h p hp).2.1⟩) with h | h
  · omega
  · subst h; simp
theorem good_get {m : Seen} (h : Good m) (x : Int) : (mGet m x).getD (.bool false) = .bool (mGet m x).isSome := by
  cases hx : mGet m x with
  | none => rfl
  | some v =>
    unfold mGet at hx
    cases hf : m.find? (fun p => decide (p.1 = x)) with
    | none => rw [hf] at hx; cases hx
    | some p =>
      rw [hf] at hx
      cases hx
      have := (h p (List.mem_of_find?_eq_some hf)).2.2
      simp [this]

theorem keyed : Keyed Try.prog 3 := int_keyed Try.underlying3
theorem zeroB (w : World) : (zeroValue 4).run Try.prog w = .ok (.bool false) w := by kernel_rfl
theorem key_int {x : Int} (h1 : -9223372036854775808 ≤ x) (h2 : x ≤ 9223372036854775807) : keyOf Try.prog 3 (.int .i64 x) = some (intK.lit x) :=
  keyOf_int_mk Try.underlying3 (WalkArith.wf_i64 (by omega))

set_option maxRecDepth 100000 in
/-- the closure: it marks what may be reached -/
theorem visit_calls (f : Nat) : ∀ (m : Seen) (s : Int) (bs bv bm : Nat) (w : World), Good m → 10 < f + m.length → GMap intK w Try.prog 3 bm m →
    w.cell? ⟨bs, 0, none⟩ = some (.map (some bm)) → w.cell? ⟨bv, 0, none⟩ = some (.func (.func 24) #[] #[.pointer (some ⟨bs, 0, none⟩), .pointer (some ⟨bv, 0, none⟩)]) → bs ≠ bm → bv ≠ bm →
    Calls Try.prog 24 #[.int .i64 s, .pointer (some ⟨bs, 0, none⟩), .pointer (some ⟨bv, 0, none⟩)] w fun e w' =>
      e = .returned (.tuple #[]) ∧ GMap intK w' Try.prog 3 bm (vis f m s) ∧ w.grownBy w' (some bm) := by
  induction f with
  | zero =>
    intro m s bs bv bm w hg hf hm
    have := good_len hg (hm.sorted keyed)
    omega
  | succ f ih =>
    intro m s bs bv bm w hg hf hm hcs hcv hn1 hn2
    have hlt1 : bs < w.heap.size := by
      rcases Nat.lt_or_ge bs w.heap.size with h | h
      · exact h
      · simp [World.cell?, Array.getElem?_eq_none h] at hcs
    have hlt2 : bv < w.heap.size := by
      rcases Nat.lt_or_ge bv w.heap.size with h | h
      · exact h
      · simp [World.cell?, Array.getElem?_eq_none h] at hcv
    have hlt3 := hm.lt
    have HV := Lib.hid (visTo_good (f := f) (s := s) hg)
    have HB := Lib.hid (show ∀ j, j < (behind s).length → 1 ≤ (behind s).getD j 0 ∧ (behind s).getD j 0 ≤ 10 from fun j hj => behind_in hj)
    have HT := Lib.hid (show ∀ i, visTo (vis f) m (behind s) (i + 1) = if (mGet (visTo (vis f) m (behind s) i) ((behind s).getD i 0)).isSome then visTo (vis f) m (behind s) i else vis f (mPut intK (visTo (vis f) m (behind s) i) ((behind s).getD i 0) (.bool true)) ((behind s).getD i 0) from fun _ => rfl)
    have IH := Lib.hid ih
    clear ih
    have hl6 := behind_len s
    have HC := Lib.hid (fun W => behind_calls s W)
    show Calls Try.prog _ _ w fun e w' => e = .returned (.tuple #[]) ∧ GMap intK w' Try.prog 3 bm (visTo (vis f) m (behind s) (behind s).length) ∧ w.grownBy w' (some bm)
    generalize hG : visTo (vis f) m (behind s) = g at *
    generalize behind s = bl at *
    have hg0 : g 0 = m := by rw [← hG]; rfl
    clear hG
    have Hg0 := Lib.hid hg0
    clear hg0
    go_enter Try.func24, Try.ntmps24
    go_wp2_with (go_at_call 12; refine (HC.out _).mono ?_; rintro e w1 ⟨⟨v, rfl, hv⟩, hb⟩; obtain ⟨A, c, rfl, hc1, hc2, _⟩ := (IntsAt.of_own hv).form; unfold maxLen at hc2)
    have hm1 := hm.below hb hlt3
    have hcs1 := (hb.cell (p := ⟨bs, 0, none⟩) hlt1).trans hcs
    have hcv1 := (hb.cell (p := ⟨bv, 0, none⟩) hlt2).trans hcv
    have Hhc := Lib.hid (And.intro hcs hcv)
    clear hcs hcv
    have hsz := hb.size
    go_loopw [5, 9] (fun _ i wr => ∃ k : Nat, k ≤ bl.length ∧ i = .int .i64 k ∧ GMap intK wr Try.prog 3 bm (g k) ∧ w1.grownBy wr (some bm)) (fun _ i _ => bl.length - (intOf i).toNat)
    case atStart => exact ⟨0, by omega, rfl, by rw [Hg0.out]; exact hm1, World.grownBy.refl w1 _⟩
    case round =>
      obtain ⟨k, hk, rfl, hmk, hgr⟩ := hrel
      obtain ⟨w2, rfl⟩ : ∃ w2 : World, w2 = wr := ⟨_, rfl⟩
      have hcs2 := (World.cell?_of_block (w := w1) (a := ⟨bs, 0, none⟩) (hgr.block bs (by omega) (by simpa using hn1))).trans hcs1
      have hcv2 := (World.cell?_of_block (w := w1) (a := ⟨bv, 0, none⟩) (hgr.block bv (by omega) (by simpa using hn2))).trans hcv1
      have Hhc1 := Lib.hid (And.intro hcs1 hcv1)
      clear hcs1 hcv1
      by_cases hlt : k < bl.length
      · have hv2 := hv.kept hgr (.inr (fun e => by have := hv.lt _ e; omega))
        obtain ⟨b, o, rfl, _, hb2, hck⟩ := (IntsAt.of_own hv2).cellAt hlt
        have hx := HB.out k hlt
        have hT := HT.out k
        generalize hy : bl.getD k 0 = x at *
        have HT2 := Lib.hid hT
        clear hT
        have HY := Lib.hid hy
        clear hy
        have hgk := HV.out k hk
        have HL := Lib.hid (hmk.look keyed Try.underlying48 (zeroB w2) (key_int (x := x) (by omega) (by omega)))
        rw [good_get hgk.1] at HL
        by_cases hs : (mGet (g k) x).isSome = true
        · rw [hs] at HL
          have hL := HL.out
          have hE : g (k + 1) = g k := by rw [HT2.out, if_pos hs]
          have HE := Lib.hid hE
          clear hE hs hgk hx HL
          go_wp2
          go_roundw
          case rel => exact ⟨k + 1, by omega, by go_num, by rw [HE.out]; exact hmk, hgr⟩
          case measure => simp [intOf]; omega
        · have hs : (mGet (g k) x).isSome = false := by simpa using hs
          rw [hs] at HL
          have hL := HL.out
          have hE : g (k + 1) = vis f (mPut intK (g k) x (.bool true)) x := by rw [HT2.out, if_neg (by simp [hs])]
          have HE := Lib.hid hE
          have HP := Lib.hid (put_len hs)
          have hG2 := hgk.1.put hx.1 hx.2
          have hlen : (g k).length ≤ 10 := good_len hgk.1 (hmk.sorted keyed)
          have hkl : 10 < f + (mPut intK (g k) x (.bool true)).length := by have := HP.out; omega
          have HK := Lib.hid (key_int (x := x) (by omega) (by omega))
          clear hE hs HL
          go_wp2_with (first
            | (at_mapUpdate
               refine wpList_put_g rfl _ _ _ 48 rfl 3 4 keyed Try.underlying48 rfl hmk (by unfold maxLen; omega) (.int .i64 x) (.bool true) x rfl rfl HK.out ?_
               intro w3 hm3 hg3
               have hgr3 := hgr.trans hg3
               have hcs3 := (World.cell?_of_block (w := w1) (a := ⟨bs, 0, none⟩) (hgr3.block bs (by omega) (by simpa using hn1))).trans Hhc1.out.1
               have hcv3 := (World.cell?_of_block (w := w1) (a := ⟨bv, 0, none⟩) (hgr3.block bv (by omega) (by simpa using hn2))).trans Hhc1.out.2
               clear hcs2 hcv2 hL)
            | (go_at_call 24; refine (IH.out _ x bs bv bm _ hG2 hkl hm3 hcs3 hcv3 hn1 hn2).mono ?_; rintro e w4 ⟨rfl, hm4, hg4⟩))
          go_roundw
          case rel => exact ⟨k + 1, by omega, by go_num, by rw [HE.out]; exact hm4, hgr3.trans hg4⟩
          case measure => simp [intOf]; omega
      · obtain rfl : k = bl.length := by omega
        go_wp2
        go_end0
        refine ⟨rfl, hmk, ?_⟩
        exact (only_of_below hb (some bm)).trans hgr

set_option maxHeartbeats 400000 in
theorem reach_calls (a b : Int) (w : World) (h1 : -9223372036854775808 ≤ b) (h2 : b ≤ 9223372036854775807) :
    Calls Try.prog 16 #[.int .i64 a, .int .i64 b] w fun e w' => e = .returned (.bool (mGet (vis 11 [] a) b).isSome) ∧ Below w.heap.size w w' := by
  have hmm := @run_makeMap Try.prog
  go_enter Try.func16, Try.ntmps16
  go_wp2_with fail
  obtain ⟨w3, hw3⟩ : ∃ w3 : World, w3 = (((w.alloc (.map #[] 0)).alloc (.cells #[.map (some w.heap.size)] 48)).alloc
    (.cells #[.func (.func 24) #[] #[.pointer (some ⟨w.heap.size + 1, 0, none⟩), .pointer (some ⟨w.heap.size + 1 + 1, 0, none⟩)]] 49)) := ⟨_, rfl⟩
  have hbw : Below w.heap.size w w3 := by rw [hw3]; exact ((((Below.refl _ w).alloc (Nat.le_refl _) _).alloc (by simp) _).alloc (by simp; omega) _)
  have hsz : w3.heap.size = w.heap.size + 3 := by rw [hw3]; simp
  have hm : GMap intK w3 Try.prog 3 w.heap.size [] := by
    rw [hw3]
    exact ((GMap.made w _ _).kept (World.grownBy_alloc _ _ none) (by simp)).kept (World.grownBy_alloc _ _ none) (by simp)
  have hcs : w3.cell? ⟨w.heap.size + 1, 0, none⟩ = some (.map (some w.heap.size)) := by rw [hw3]; go_simp
  have hcv : w3.cell? ⟨w.heap.size + 1 + 1, 0, none⟩ = some (.func (.func 24) #[] #[.pointer (some ⟨w.heap.size + 1, 0, none⟩), .pointer (some ⟨w.heap.size + 1 + 1, 0, none⟩)]) := by rw [hw3]; go_simp
  rw [← hw3]
  refine (visit_calls 11 [] a _ _ _ _ (by intro p hp; cases hp) (by simp) hm hcs hcv (by omega) (by omega)).mono ?_
  rintro e w4 ⟨rfl, hm4, hg4⟩
  have hcs4 := (World.cell?_of_block (w := w3) (a := ⟨w.heap.size + 1, 0, none⟩) (hg4.block _ (by simp; omega) (by simp))).trans hcs
  have hgd : Good (vis 11 [] a) := (Good.vis (f := 11) (m := []) (s := a) (by intro p hp; cases hp)).1
  have hL := hm4.look keyed Try.underlying48 (zeroB w4) (key_int (x := b) h1 h2)
  rw [good_get hgd] at hL
  clear hcs hcv hw3
  go_wp2
  go_ret
  exact ⟨rfl, hbw.grown hg4 (by omega) (by intro k hk; cases hk; omega)⟩

def keys (a : Int) : List Int := (vis 11 [] a).map (·.1)
theorem isSome_keys (m : Seen) (x : Int) : (mGet m x).isSome = decide (x ∈ m.map (·.1)) := by
  induction m with
  | nil => rfl
  | cons p r ih =>
    rw [mGet_cons]
    by_cases h : p.1 = x
    · simp [h]
    · rw [if_neg h, ih]
      simp [Ne.symm h]
theorem vis_out {a : Int} (h : a ≠ 1 ∧ a ≠ 2 ∧ a ≠ 3 ∧ a ≠ 4 ∧ a ≠ 7 ∧ a ≠ 8 ∧ a ≠ 9) : vis 11 [] a = [] := by
  show visTo _ _ _ _ = _
  rw [behind_out h]; rfl
theorem round_out {a : Int} (h : a ≠ 1 ∧ a ≠ 2 ∧ a ≠ 3 ∧ a ≠ 4 ∧ a ≠ 7 ∧ a ≠ 8 ∧ a ≠ 9) : roundTo (behind a) 12 = [] := by rw [behind_out h]; decide
/-- both say the same -/
theorem reach_same (a b : Int) : (mGet (vis 11 [] a) b).isSome = inL b (roundTo (behind a) 12) := by
  rw [isSome_keys, inL_iff]
  rcases @nine a with h | h | h | h | h | h | h | h
  case inr.inr.inr.inr.inr.inr.inr => rw [vis_out h, round_out h]; rfl
  all_goals
    subst h
    rw [decide_eq_decide]
    constructor
    · revert b; decide +kernel
    · revert b; decide +kernel
end Life
end Go.Proofs.Ytcohjcbcadfkdaa
