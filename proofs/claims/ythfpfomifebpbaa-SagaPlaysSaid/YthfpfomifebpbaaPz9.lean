/-
  sagas played: come.
-/
import Derived.Test.YthfpfomifebpbaaPz8
import Derived.BigRegion

set_option linter.unusedVariables false
set_option linter.unusedSimpArgs false
namespace Go.Proofs.Ythfpfomifebpbaa
open Go.RowKit Go.Maps
namespace Sa
open It
set_option linter.unusedSimpArgs false

theorem undo_len {t : Saga} (h : t.got.length ≤ 8) : (undoS t).2.length ≤ 8 := by
  rcases undo_form t with ⟨-, e⟩ | ⟨-, e⟩
  · rw [e]; simp [told]
  · rw [e]
    have := holders_len t.got
    simp only [eachL, List.length_map]
    omega
theorem took_len {t : Saga} {l : List It.Item} (h : t.got.length ≤ 8) : (tookT t l).2.length ≤ 8 := by
  unfold tookT
  split
  · exact undo_len h
  split
  · simp [told]
  split
  · simp
  · exact undo_len h
theorem next_len {s : Saga} {ev : Ev} {u : Saga × List Step} (h : nextS s ev = .ok u) : u.2.length ≤ 8 := by
  have hm := (next_may h).1
  have hg := (mayS_M hm).2.2
  have hh := holders_len s.got
  unfold nextS nextU at h
  rw [hm, if_pos rfl] at h
  unfold happenS at h
  split at h
  · unfold tookS tookU at h
    split at h
    · split at h
      · cases h; exact took_len (by simpa using hg)
      · cases h
    · cases h
  split at h
  · unfold freedS freedT at h
    split at h
    · cases h
      split
      · simp [told]
      · simp
    · cases h
  split at h
  · unfold cancelS cancelAt at h
    split at h
    · split at h
      · cases h
      · cases h; simp
    split at h
    · cases h; simp [told]
    split at h
    · cases h; exact undo_len hg
    · cases h
  split at h
  · unfold retryS beginS beginU at h
    split at h
    · split at h
      · cases h
      split at h
      · cases h; simp
      · cases h
    · cases h
  split at h
  · unfold allS at h
    split at h
    · cases h
      simp only [eachL, List.length_map]
      omega
    · cases h
  split at h
  · unfold didS didU didT at h
    split at h
    · split at h
      · cases h
        split
        · simp [told]
        · simp
      · cases h
    · cases h
  split at h
  · unfold allS at h
    split at h
    · cases h
      simp only [eachL, List.length_map]
      omega
    · cases h
  split at h
  · unfold didS didU didT at h
    split at h
    · split at h
      · cases h
        split
        · simp [told]
        · simp
      · cases h
    · cases h
  · cases h
theorem PlayAt.first' {w : World} {B : Bl} {n : Nat} {p : Play} {vw vg vp vy : Value} (h : PlayAt w B n p vw vg vp vy) {x : Step} {rest : List Step} (hw : p.way = x :: rest) {L : Nat} (hL : rest.length + 1 = L) :
    ∃ g off c Ax cx, vy = .slice (some ⟨g, off, none⟩) L c ∧ L ≤ c ∧ g < w.heap.size ∧ w.rangeAt g off (stepL x (.slice Ax x.items.length cx)) ∧ SlA (B.av vy) w 2 (.slice Ax x.items.length cx) x.items.length (itemCells x.items) ∧
      ∀ A2, (if c = 1 then some (⟨g, off, none⟩ : Addr) else some ⟨g, off + 4, none⟩) = A2 → PlayAt (w.setCell ⟨B.b, 14, none⟩ (.slice A2 (L - 1) (c - 1))) B n { p with way := rest } vw vg vp (.slice A2 (L - 1) (c - 1)) ∧ Plays B vy w (w.setCell ⟨B.b, 14, none⟩ (.slice A2 (L - 1) (c - 1))) ∧ ∀ i, (Value.slice A2 (L - 1) (c - 1)).ownBlock = some i → vy.ownBlock = some i := by
  subst hL
  exact h.first hw
/-- numbers that no sum of the law passes -/
def Bd (n : Nat) (f : Nat → Int) : Prop := ∀ i, i < n → 0 ≤ f i ∧ f i ≤ 1099511627776

set_option maxRecDepth 100000 in
set_option maxHeartbeats 8000000 in
theorem comepick_calls (B : Bl) (n : Nat) (p q : Play) (vw vg vp vy : Value) (w : World) (h : PlayAt w B n p vw vg vp vy) (hn8 : n ≤ 8) (hcf : n ≤ B.cf) (hF : Fit p.s) (hl : p.way.length ≤ 1000) (h1 : Bd n p.free) (h2 : Bd n p.held) (h3 : Bd n p.picked)
    (r : Nat) (hrn : r < n) (xi : List It.Item) (xst : Int) (rest : List Step) (hw : p.way = ⟨7, (r : Int), xi, xst⟩ :: rest) (hpos : 0 < p.held r) (ht : tellP { p with way := rest, picked := upd p.picked r (p.held r), held := upd p.held r 0 } ⟨6, r, it1 (p.held r)⟩ = some q) (hs0 : p.s.state ≠ 0) (hs1 : q.s.state ≠ 0) :
    Calls Try.prog 17 #[.pointer (some ⟨B.b, 0, none⟩)] w fun e w' => e = .returned (.bool true) ∧ (∃ vw' vg' vp' vy', PlayAt w' B n q vw' vg' vp' vy' ∧ ∀ i, vy'.ownBlock = some i → vy.ownBlock = some i ∨ w.heap.size ≤ i) ∧ Plays B vy w w' := by
  have hok := Lib.hid h.ok
  have hrl : rest.length ≤ 1000 := by rw [hw] at hl; simp at hl; omega
  obtain ⟨L, hL⟩ : ∃ L, rest.length + 1 = L := ⟨_, rfl⟩
  have hL0 : 0 < L := by omega
  obtain ⟨g, off, c, Ax, cx, rfl, hLc, hgl, rg, hx, -⟩ := h.first' hw hL
  dsimp only at rg hx
  have HX0 := Lib.hid (fun W (hb : Below w.heap.size w W) => hx.later hb)
  have oX0 := Ob.new w 52 #[.int .i64 0, .int .i64 0, .slice none 0 0, .int .i64 0]
  have hzx : (w.alloc (.cells #[.int .i64 0, .int .i64 0, .slice none 0 0, .int .i64 0] 52)).heap.size = w.heap.size + 1 := World.size_alloc _ _
  have halx := (Below.refl w.heap.size w).alloc (Nat.le_refl _) (.cells #[.int .i64 0, .int .i64 0, .slice none 0 0, .int .i64 0] 52)
  have c14 : w.cell? ⟨B.b, 14, none⟩ = some (.slice (some ⟨g, off, none⟩) L c) := h.ob.cell rfl
  have HT := Lib.hid ht
  have HW := Lib.hid hw
  have HLL := Lib.hid hL
  have H := Lib.hid h
  have H1 := Lib.hid h1
  have H2 := Lib.hid h2
  have H3 := Lib.hid h3
  have HRL := Lib.hid hrl
  have dL : decide (L = 0) = false := by simp; omega
  have dL2 : ((L : Int) == 0) = false := by simp; omega
  clear h ht hw hL hx h1 h2 h3 hrl hl
  go_enter Try.func17, Try.ntmps17
  go_upto_region 4 with (first
    | (refine wpList_load_mid rfl 52 (.tmp 18) rfl g off rfl [.int .i64 7, .int .i64 r, .slice Ax xi.length cx, .int .i64 xst] _ rg Try.underlying52 rfl (by kernel_rfl) ?_)
    | (refine wpList_store_ob (cells := #[.int .i64 7, .int .i64 r, .slice Ax xi.length cx, .int .i64 xst]) rfl 52 (.tmp 3) (.tmp 19) rfl rfl rfl oX0 rfl (by kernel_rfl) (by simp [Value.oneCell']) ?_; intro W1 oX hg1))
  have hb1 : Below w.heap.size w W1 := halx.grown hg1 (by omega) (fun g e => by have e2 : w.heap.size = g := Option.some.inj e; omega)
  have hp1 := H.out.same hb1
  obtain ⟨g', off', c', Ax', cx', e', -, -, -, -, hfst⟩ := hp1.first' HW.out HLL.out
  cases e'
  obtain ⟨A2, hA2⟩ : ∃ A2, (if c = 1 then some (⟨g, off, none⟩ : Addr) else some ⟨g, off + 4, none⟩) = A2 := ⟨_, rfl⟩
  obtain ⟨hp2, hpl2, hv2⟩ := hfst A2 hA2
  have hs1w := hb1.size
  have hxl := oX.lt
  have oX2 := oX.other (show w.heap.size ≠ B.b from fun e => by have := H.out.ob.lt; omega) 14 (.slice A2 (L - 1) (c - 1))
  have c14' : W1.cell? ⟨B.b, 14, none⟩ = some (.slice (some ⟨g, off, none⟩) L c) := hp1.ob.cell rfl
  have f14 := hp1.ob.frozen 14
  have HPL := Lib.hid (Plays.trans (Plays.of_below (B := B) (vy := .slice (some ⟨g, off, none⟩) L c) hb1) hpl2 (fun i hi => .inl hi))
  have HV2 := Lib.hid hv2
  clear c14 oX0 hzx halx hg1 hp1 hfst hpl2 hv2 oX
  go_upto_region 5 with (fail)
  clear c14' f14 hA2 rg
  generalize W1.setCell ⟨B.b, 14, none⟩ (.slice A2 (L - 1) (c - 1)) = W2 at *
  obtain ⟨vy2, hvy2⟩ : ∃ vy2, Value.slice A2 (L - 1) (c - 1) = vy2 := ⟨_, rfl⟩
  rw [hvy2] at hp2 HV2
  clear hvy2
  have k1 : W2.cell? ⟨w.heap.size, 1, none⟩ = some (.int .i64 r) := oX2.cell rfl
  obtain ⟨p10, p11, p12, p13, -, -⟩ := hp2.cells
  have dr1 : decide ((r : Int) < 0) = false := by simp
  have dr2 : decide (n ≤ r) = false := by simp; omega
  have oE0 := Ob.new W2 44 #[.int .i64 0, .int .i64 0, .slice none 0 0]
  have hale := (Below.refl W2.heap.size W2).alloc (Nat.le_refl _) (.cells #[.int .i64 0, .int .i64 0, .slice none 0 0] 44)
  have hw2 : w.heap.size < W2.heap.size := oX2.lt
  go_upto_region 9 with (refine wpList_store_ob (cells := #[.int .i64 0, .int .i64 r, .slice none 0 0]) rfl 44 (.tmp 5) (.tmp 42) rfl rfl rfl oE0 rfl (by kernel_rfl) (by simp [Value.oneCell']) ?_; intro W3 oE hg3)
  have hb3 : Below W2.heap.size W2 W3 := hale.grown hg3 (by simp) (fun g e => by have e2 : W2.heap.size = g := Option.some.inj e; omega)
  have hp3 := hp2.same hb3
  have oX3 := oX2.same hb3
  have hs3 := hb3.size
  obtain ⟨eb, heb⟩ : ∃ eb, W2.heap.size = eb := ⟨_, rfl⟩
  have hk3 : Kept (fun i => i < W2.heap.size ∧ ¬ (i = B.f ∨ i = B.h ∨ i = B.k ∨ i = B.g)) W2 W3 := Kept.of_below hb3 fun i hi => hi.1
  have hfl : B.f < eb ∧ B.h < eb ∧ B.k < eb ∧ B.g < eb ∧ B.b < eb := by have a1 := hp2.free.lt; have a2 := hp2.held.lt; have a3 := hp2.picked.lt; have a4 := hp2.gone.lt; have a5 := hp2.ob.lt; omega
  rw [heb] at oE hs3 ⊢
  have HEB := Lib.hid heb
  have HK3 := Lib.hid hk3
  have HP2 := Lib.hid hp2
  have hebl : eb < W3.heap.size := oE.lt
  have heg : w.heap.size < eb := by omega
  obtain ⟨l1, l2, l3, l4, l5⟩ := hfl
  clear k1 p10 p11 p12 p13 dr1 dr2 oE0 hale hg3 hp2 oX2 hb3 heb hk3 hs3
  obtain ⟨p10, p11, p12, p13, -, p5⟩ := hp3.cells
  have k0 : W3.cell? ⟨w.heap.size, 0, none⟩ = some (.int .i64 7) := oX3.cell rfl
  have v1 := hp3.free
  have v2 := hp3.held
  have v3 := hp3.picked
  have v4 := hp3.gone
  have q1 : W3.cell? ⟨B.f, r, none⟩ = some (.int .i64 (p.free r)) := v1.cell hrn
  have q2 : W3.cell? ⟨B.h, r, none⟩ = some (.int .i64 (p.held r)) := v2.cell hrn
  have q3 : W3.cell? ⟨B.k, r, none⟩ = some (.int .i64 (p.picked r)) := v3.cell hrn
  have q4 : W3.cell? ⟨B.g, r, none⟩ = some (.int .i64 (p.gone r)) := v4.cell hrn
  have y1 := v1.frozen r
  have y2 := v2.frozen r
  have y3 := v3.frozen r
  have y4 := v4.frozen r
  have V1 := Lib.hid v1
  have V2 := Lib.hid v2
  have V3 := Lib.hid v3
  have V4 := Lib.hid v4
  have OE := Lib.hid oE
  have OX := Lib.hid oX3
  obtain ⟨b1, b2⟩ := H1.out r hrn
  obtain ⟨b3, b4⟩ := H2.out r hrn
  obtain ⟨b5, b6⟩ := H3.out r hrn
  clear hp3 v1 v2 v3 v4 oE oX3
  go_upto_region 23 with (fail)
  clear k0
  have nh1 := hok.out.hk
  have nh2 := hok.out.kg
  go_region
  have hd0 := (Below.refl ((W3.setCell ⟨B.k, r, none⟩ (.int .i64 (p.held r))).setCell ⟨B.h, r, none⟩ (.int .i64 (0))).heap.size ((W3.setCell ⟨B.k, r, none⟩ (.int .i64 (p.held r))).setCell ⟨B.h, r, none⟩ (.int .i64 (0)))).drew
  have u1 : Vec (((W3.setCell ⟨B.k, r, none⟩ (.int .i64 (p.held r))).setCell ⟨B.h, r, none⟩ (.int .i64 (0))).drew) B.f n p.free := ((V1.out.other hok.out.fk).other hok.out.fh).same hd0
  have u2 : Vec (((W3.setCell ⟨B.k, r, none⟩ (.int .i64 (p.held r))).setCell ⟨B.h, r, none⟩ (.int .i64 (0))).drew) B.h n (upd p.held r (0)) := ((V2.out.other hok.out.hk).set hrn _).same hd0
  have u3 : Vec (((W3.setCell ⟨B.k, r, none⟩ (.int .i64 (p.held r))).setCell ⟨B.h, r, none⟩ (.int .i64 (0))).drew) B.k n (upd p.picked r (p.held r)) := ((V3.out.set hrn _).other (fun e => hok.out.hk e.symm)).same hd0
  have u4 : Vec (((W3.setCell ⟨B.k, r, none⟩ (.int .i64 (p.held r))).setCell ⟨B.h, r, none⟩ (.int .i64 (0))).drew) B.g n p.gone := ((V4.out.other (fun e => hok.out.kg e.symm)).other (fun e => hok.out.hg e.symm)).same hd0
  have hgA := grownBy_set W3 B.k r (.int .i64 (p.held r))
  have hgB := grownBy_set (W3.setCell ⟨B.k, r, none⟩ (.int .i64 (p.held r))) B.h r (.int .i64 (0))
  have hk4 := ((HK3.out.trans (Kept.of_grown hgA fun i hi => ⟨Nat.lt_of_lt_of_le hi.1 HK3.out.size, fun e => hi.2 (by cases e; simp)⟩)).trans (Kept.of_grown hgB fun i hi => ⟨Nat.lt_of_lt_of_le hi.1 (Nat.le_trans HK3.out.size hgA.size), fun e => hi.2 (by cases e; simp)⟩)).trans (Kept.of_below hd0 fun i hi => Nat.lt_of_lt_of_le hi.1 (Nat.le_trans (Nat.le_trans HK3.out.size hgA.size) hgB.size))
  have oE4 := ((OE.out.kept hgA (fun e => by have e2 : eb = B.k := Option.some.inj e; omega)).kept hgB (fun e => by have e2 : eb = B.h := Option.some.inj e; omega)).same hd0
  have z4 : eb < (((W3.setCell ⟨B.k, r, none⟩ (.int .i64 (p.held r))).setCell ⟨B.h, r, none⟩ (.int .i64 (0))).drew).heap.size := oE4.lt
  clear hgA hgB hd0
  generalize ((W3.setCell ⟨B.k, r, none⟩ (.int .i64 (p.held r))).setCell ⟨B.h, r, none⟩ (.int .i64 (0))).drew = W4 at *
  clear q1 q2 q3 q4 y1 y2 y3 y4 p10 p11 p12 p13 p5
  have g0 : W4.cell? ⟨eb, 0, none⟩ = some (.int .i64 0) := oE4.cell rfl
  have f0 := oE4.frozen 0
  have oE5 : Ob (W4.setCell ⟨eb, 0, none⟩ (.int .i64 6)) eb 44 #[.int .i64 6, .int .i64 r, .slice none 0 0] := oE4.set 0 (.int .i64 6)
  have hg5 := grownBy_set W4 eb 0 (.int .i64 6)
  have hk5 := hk4.trans (Kept.of_grown hg5 fun i hi => ⟨Nat.lt_of_lt_of_le hi.1 hk4.size, fun e => by have e2 : eb = i := (Option.some.inj e).symm; have := HEB.out; have := hi.1; omega⟩)
  have u1 := u1.kept hg5 (fun e => by have e2 : B.f = eb := Option.some.inj e; omega)
  have u2 := u2.kept hg5 (fun e => by have e2 : B.h = eb := Option.some.inj e; omega)
  have u3 := u3.kept hg5 (fun e => by have e2 : B.k = eb := Option.some.inj e; omega)
  have u4 := u4.kept hg5 (fun e => by have e2 : B.g = eb := Option.some.inj e; omega)
  go_upto_region 29 with (fail)
  clear g0 f0 oE4 hk4 hg5 z4
  generalize W4.setCell ⟨eb, 0, none⟩ (.int .i64 6) = W5 at *
  have dp : decide (0 < p.held r) = true := by simpa using hpos
  have hal6 := (Below.refl W5.heap.size W5).alloc (Nat.le_refl _) (.cells #[.string ⟨#[97]⟩, .int .i64 (p.held r)] 41)
  have hit : Sl (W5.alloc (.cells #[.string ⟨#[97]⟩, .int .i64 (p.held r)] 41)) W5.heap.size (W5.heap.size + 1) 2 (.slice (some ⟨W5.heap.size, 0, none⟩) 1 1) 1 [.string ⟨#[97]⟩, .int .i64 (p.held r)] := Sl.new W5 #[.string ⟨#[97]⟩, .int .i64 (p.held r)] 41 (n := 1) (size := 2) rfl (by unfold maxLen; omega)
  have oE5a := oE5.same hal6
  have hg6 := grownBy_set (W5.alloc (.cells #[.string ⟨#[97]⟩, .int .i64 (p.held r)] 41)) eb 2 (.slice (some ⟨W5.heap.size, 0, none⟩) 1 1)
  have oE6 : Ob ((W5.alloc (.cells #[.string ⟨#[97]⟩, .int .i64 (p.held r)] 41)).setCell ⟨eb, 2, none⟩ (.slice (some ⟨W5.heap.size, 0, none⟩) 1 1)) eb 44 #[.int .i64 6, .int .i64 r, .slice (some ⟨W5.heap.size, 0, none⟩) 1 1] := oE5a.set 2 (.slice (some ⟨W5.heap.size, 0, none⟩) 1 1)
  have g2 : (W5.alloc (.cells #[.string ⟨#[97]⟩, .int .i64 (p.held r)] 41)).cell? ⟨eb, 2, none⟩ = some (.slice none 0 0) := oE5a.cell rfl
  have f2 := oE5a.frozen 2
  have hel := oE5.lt
  have hsa : (W5.alloc (.cells #[.string ⟨#[97]⟩, .int .i64 (p.held r)] 41)).heap.size = W5.heap.size + 1 := World.size_alloc _ _
  have HSA := Lib.hid hsa
  have hit6 : ItemsAt ((W5.alloc (.cells #[.string ⟨#[97]⟩, .int .i64 (p.held r)] 41)).setCell ⟨eb, 2, none⟩ (.slice (some ⟨W5.heap.size, 0, none⟩) 1 1)) 0 ((W5.alloc (.cells #[.string ⟨#[97]⟩, .int .i64 (p.held r)] 41)).setCell ⟨eb, 2, none⟩ (.slice (some ⟨W5.heap.size, 0, none⟩) 1 1)).heap.size (.slice (some ⟨W5.heap.size, 0, none⟩) 1 1) (it1 (p.held r)) := by
    rw [it1_pos hpos]
    have hk : Kept (fun i => W5.heap.size ≤ i ∧ i < W5.heap.size + 1) (W5.alloc (.cells #[.string ⟨#[97]⟩, .int .i64 (p.held r)] 41)) ((W5.alloc (.cells #[.string ⟨#[97]⟩, .int .i64 (p.held r)] 41)).setCell ⟨eb, 2, none⟩ (.slice (some ⟨W5.heap.size, 0, none⟩) 1 1)) := Kept.of_grown hg6 fun i hi => ⟨by rw [hsa]; exact hi.2, fun e => by have e2 : eb = i := (Option.some.inj e).symm; have := hi.1; omega⟩
    exact (hk.sl hit fun i ha hb => ⟨ha, hb⟩).wide (Nat.zero_le _) (by rw [← hsa]; exact hg6.size)
  have hk6 := (hk5.trans (Kept.of_below hal6 fun i hi => Nat.lt_of_lt_of_le hi.1 hk5.size)).trans (Kept.of_grown hg6 fun i hi => ⟨Nat.lt_of_lt_of_le hi.1 (Nat.le_trans hk5.size hal6.size), fun e => by have e2 : eb = i := (Option.some.inj e).symm; have := HEB.out; have := hi.1; omega⟩)
  have u1 := (u1.same hal6).kept hg6 (fun e => by have e2 : B.f = eb := Option.some.inj e; omega)
  have u2 := (u2.same hal6).kept hg6 (fun e => by have e2 : B.h = eb := Option.some.inj e; omega)
  have u3 := (u3.same hal6).kept hg6 (fun e => by have e2 : B.k = eb := Option.some.inj e; omega)
  have u4 := (u4.same hal6).kept hg6 (fun e => by have e2 : B.g = eb := Option.some.inj e; omega)
  clear oE5 oE5a hit hsa hg6 hk5 hel hal6
  go_upto_region 31 with (fail)
  clear g2 f2 dp
  generalize (W5.alloc (.cells #[.string ⟨#[97]⟩, .int .i64 (p.held r)] 41)).setCell ⟨eb, 2, none⟩ (.slice (some ⟨W5.heap.size, 0, none⟩) 1 1) = W6 at *
  obtain ⟨ve, hve⟩ : ∃ ve : Value, Value.slice (some ⟨W5.heap.size, 0, none⟩) 1 1 = ve := ⟨_, rfl⟩
  rw [hve] at oE6 hit6
  obtain ⟨Av, cv, hvv⟩ : ∃ A c, ve = .slice A (it1 (p.held r)).length c := by obtain ⟨A, c, e, -⟩ := hit6.form; exact ⟨A, c, e⟩
  clear hve
  obtain ⟨hp6, hpl6⟩ := HP2.out.nums (q := { p with way := rest, picked := upd p.picked r (p.held r), held := upd p.held r 0 }) rfl rfl hk6 u1 u2 u3 u4
  have c5 : W6.cell? ⟨B.b, 5, none⟩ = some (.int .i64 p.s.state) := hp6.ob.cell rfl
  have cT := tellp_calls B n { p with way := rest, picked := upd p.picked r (p.held r), held := upd p.held r 0 } q vw vg vp vy2 ⟨6, r, it1 (p.held r)⟩ ve W6 hp6 hF hit6 ((it1_M (by omega)).fits) (by have := HRL.out; show rest.length ≤ 1000; exact this) (fun u hu => next_len hu) HT.out
  obtain ⟨ec, hec⟩ : ∃ ec, evC ⟨6, r, it1 (p.held r)⟩ ve = ec := ⟨_, rfl⟩
  have he1 : ec.size = 3 := by rw [← hec]; rfl
  rw [hec] at cT
  rw [show #[.int .i64 6, .int .i64 r, ve] = ec from hec] at oE6
  have cT := Lib.hid cT
  have HPL6 := Lib.hid (Plays.trans HPL.out hpl6 (fun i hi => .inl (HV2.out i hi)))
  have hs6 : w.heap.size ≤ W6.heap.size := Nat.le_trans (Nat.le_of_lt hw2) (Kept.size hk6)
  clear hec hp6 hpl6 hk6 u1 u2 u3 u4 hit6
  go_upto_region 34 with (first | (refine wpList_load_obg (by rfl) _ _ rfl rfl _ oE6 Try.underlying44 rfl (by rw [he1]; kernel_rfl) ?_) | (go_at_call 16; refine cT.out.mono ?_; rintro e W7 ⟨rfl, ⟨zw, zg, zp, zy, hp7, hz7⟩, hpl7⟩))
  clear c5 oE6 cT
  have c7 : W7.cell? ⟨B.b, 5, none⟩ = some (.int .i64 q.s.state) := hp7.ob.cell rfl
  have e0 : (p.s.state != 0) = true := by simpa using hs0
  have e1 : (q.s.state != 0) = true := by simpa using hs1
  have HP7 := Lib.hid hp7
  have HZ7 := Lib.hid hz7
  have HPL7 := Lib.hid hpl7
  clear hp7 hz7 hpl7
  go_wp2
  go_ret
  exact ⟨rfl, ⟨_, _, _, _, HP7.out, fun i hi => (HZ7.out i hi).elim (fun hx => .inl (HV2.out i hx)) (fun hx => .inr (by omega))⟩, Plays.trans HPL6.out HPL7.out (fun i hi => .inl (HV2.out i hi))⟩
set_option maxRecDepth 100000 in
set_option maxHeartbeats 8000000 in
theorem comeship_calls (B : Bl) (n : Nat) (p q : Play) (vw vg vp vy : Value) (w : World) (h : PlayAt w B n p vw vg vp vy) (hn8 : n ≤ 8) (hcf : n ≤ B.cf) (hF : Fit p.s) (hl : p.way.length ≤ 1000) (h1 : Bd n p.free) (h2 : Bd n p.held) (h3 : Bd n p.picked)
    (r : Nat) (hrn : r < n) (xi : List It.Item) (xst : Int) (rest : List Step) (hw : p.way = ⟨9, (r : Int), xi, xst⟩ :: rest) (hpos : 0 < p.picked r) (ht : tellP { p with way := rest, gone := upd p.gone r (p.picked r), picked := upd p.picked r 0 } ⟨8, r, it1 (p.picked r)⟩ = some q) (hs0 : p.s.state ≠ 0) (hs1 : q.s.state ≠ 0) :
    Calls Try.prog 17 #[.pointer (some ⟨B.b, 0, none⟩)] w fun e w' => e = .returned (.bool true) ∧ (∃ vw' vg' vp' vy', PlayAt w' B n q vw' vg' vp' vy' ∧ ∀ i, vy'.ownBlock = some i → vy.ownBlock = some i ∨ w.heap.size ≤ i) ∧ Plays B vy w w' := by
  have hok := Lib.hid h.ok
  have hrl : rest.length ≤ 1000 := by rw [hw] at hl; simp at hl; omega
  obtain ⟨L, hL⟩ : ∃ L, rest.length + 1 = L := ⟨_, rfl⟩
  have hL0 : 0 < L := by omega
  obtain ⟨g, off, c, Ax, cx, rfl, hLc, hgl, rg, hx, -⟩ := h.first' hw hL
  dsimp only at rg hx
  have HX0 := Lib.hid (fun W (hb : Below w.heap.size w W) => hx.later hb)
  have oX0 := Ob.new w 52 #[.int .i64 0, .int .i64 0, .slice none 0 0, .int .i64 0]
  have hzx : (w.alloc (.cells #[.int .i64 0, .int .i64 0, .slice none 0 0, .int .i64 0] 52)).heap.size = w.heap.size + 1 := World.size_alloc _ _
  have halx := (Below.refl w.heap.size w).alloc (Nat.le_refl _) (.cells #[.int .i64 0, .int .i64 0, .slice none 0 0, .int .i64 0] 52)
  have c14 : w.cell? ⟨B.b, 14, none⟩ = some (.slice (some ⟨g, off, none⟩) L c) := h.ob.cell rfl
  have HT := Lib.hid ht
  have HW := Lib.hid hw
  have HLL := Lib.hid hL
  have H := Lib.hid h
  have H1 := Lib.hid h1
  have H2 := Lib.hid h2
  have H3 := Lib.hid h3
  have HRL := Lib.hid hrl
  have dL : decide (L = 0) = false := by simp; omega
  have dL2 : ((L : Int) == 0) = false := by simp; omega
  clear h ht hw hL hx h1 h2 h3 hrl hl
  go_enter Try.func17, Try.ntmps17
  go_upto_region 4 with (first
    | (refine wpList_load_mid rfl 52 (.tmp 18) rfl g off rfl [.int .i64 9, .int .i64 r, .slice Ax xi.length cx, .int .i64 xst] _ rg Try.underlying52 rfl (by kernel_rfl) ?_)
    | (refine wpList_store_ob (cells := #[.int .i64 9, .int .i64 r, .slice Ax xi.length cx, .int .i64 xst]) rfl 52 (.tmp 3) (.tmp 19) rfl rfl rfl oX0 rfl (by kernel_rfl) (by simp [Value.oneCell']) ?_; intro W1 oX hg1))
  have hb1 : Below w.heap.size w W1 := halx.grown hg1 (by omega) (fun g e => by have e2 : w.heap.size = g := Option.some.inj e; omega)
  have hp1 := H.out.same hb1
  obtain ⟨g', off', c', Ax', cx', e', -, -, -, -, hfst⟩ := hp1.first' HW.out HLL.out
  cases e'
  obtain ⟨A2, hA2⟩ : ∃ A2, (if c = 1 then some (⟨g, off, none⟩ : Addr) else some ⟨g, off + 4, none⟩) = A2 := ⟨_, rfl⟩
  obtain ⟨hp2, hpl2, hv2⟩ := hfst A2 hA2
  have hs1w := hb1.size
  have hxl := oX.lt
  have oX2 := oX.other (show w.heap.size ≠ B.b from fun e => by have := H.out.ob.lt; omega) 14 (.slice A2 (L - 1) (c - 1))
  have c14' : W1.cell? ⟨B.b, 14, none⟩ = some (.slice (some ⟨g, off, none⟩) L c) := hp1.ob.cell rfl
  have f14 := hp1.ob.frozen 14
  have HPL := Lib.hid (Plays.trans (Plays.of_below (B := B) (vy := .slice (some ⟨g, off, none⟩) L c) hb1) hpl2 (fun i hi => .inl hi))
  have HV2 := Lib.hid hv2
  clear c14 oX0 hzx halx hg1 hp1 hfst hpl2 hv2 oX
  go_upto_region 5 with (fail)
  clear c14' f14 hA2 rg
  generalize W1.setCell ⟨B.b, 14, none⟩ (.slice A2 (L - 1) (c - 1)) = W2 at *
  obtain ⟨vy2, hvy2⟩ : ∃ vy2, Value.slice A2 (L - 1) (c - 1) = vy2 := ⟨_, rfl⟩
  rw [hvy2] at hp2 HV2
  clear hvy2
  have k1 : W2.cell? ⟨w.heap.size, 1, none⟩ = some (.int .i64 r) := oX2.cell rfl
  obtain ⟨p10, p11, p12, p13, -, -⟩ := hp2.cells
  have dr1 : decide ((r : Int) < 0) = false := by simp
  have dr2 : decide (n ≤ r) = false := by simp; omega
  have oE0 := Ob.new W2 44 #[.int .i64 0, .int .i64 0, .slice none 0 0]
  have hale := (Below.refl W2.heap.size W2).alloc (Nat.le_refl _) (.cells #[.int .i64 0, .int .i64 0, .slice none 0 0] 44)
  have hw2 : w.heap.size < W2.heap.size := oX2.lt
  go_upto_region 9 with (refine wpList_store_ob (cells := #[.int .i64 0, .int .i64 r, .slice none 0 0]) rfl 44 (.tmp 5) (.tmp 42) rfl rfl rfl oE0 rfl (by kernel_rfl) (by simp [Value.oneCell']) ?_; intro W3 oE hg3)
  have hb3 : Below W2.heap.size W2 W3 := hale.grown hg3 (by simp) (fun g e => by have e2 : W2.heap.size = g := Option.some.inj e; omega)
  have hp3 := hp2.same hb3
  have oX3 := oX2.same hb3
  have hs3 := hb3.size
  obtain ⟨eb, heb⟩ : ∃ eb, W2.heap.size = eb := ⟨_, rfl⟩
  have hk3 : Kept (fun i => i < W2.heap.size ∧ ¬ (i = B.f ∨ i = B.h ∨ i = B.k ∨ i = B.g)) W2 W3 := Kept.of_below hb3 fun i hi => hi.1
  have hfl : B.f < eb ∧ B.h < eb ∧ B.k < eb ∧ B.g < eb ∧ B.b < eb := by have a1 := hp2.free.lt; have a2 := hp2.held.lt; have a3 := hp2.picked.lt; have a4 := hp2.gone.lt; have a5 := hp2.ob.lt; omega
  rw [heb] at oE hs3 ⊢
  have HEB := Lib.hid heb
  have HK3 := Lib.hid hk3
  have HP2 := Lib.hid hp2
  have hebl : eb < W3.heap.size := oE.lt
  have heg : w.heap.size < eb := by omega
  obtain ⟨l1, l2, l3, l4, l5⟩ := hfl
  clear k1 p10 p11 p12 p13 dr1 dr2 oE0 hale hg3 hp2 oX2 hb3 heb hk3 hs3
  obtain ⟨p10, p11, p12, p13, -, p5⟩ := hp3.cells
  have k0 : W3.cell? ⟨w.heap.size, 0, none⟩ = some (.int .i64 9) := oX3.cell rfl
  have v1 := hp3.free
  have v2 := hp3.held
  have v3 := hp3.picked
  have v4 := hp3.gone
  have q1 : W3.cell? ⟨B.f, r, none⟩ = some (.int .i64 (p.free r)) := v1.cell hrn
  have q2 : W3.cell? ⟨B.h, r, none⟩ = some (.int .i64 (p.held r)) := v2.cell hrn
  have q3 : W3.cell? ⟨B.k, r, none⟩ = some (.int .i64 (p.picked r)) := v3.cell hrn
  have q4 : W3.cell? ⟨B.g, r, none⟩ = some (.int .i64 (p.gone r)) := v4.cell hrn
  have y1 := v1.frozen r
  have y2 := v2.frozen r
  have y3 := v3.frozen r
  have y4 := v4.frozen r
  have V1 := Lib.hid v1
  have V2 := Lib.hid v2
  have V3 := Lib.hid v3
  have V4 := Lib.hid v4
  have OE := Lib.hid oE
  have OX := Lib.hid oX3
  obtain ⟨b1, b2⟩ := H1.out r hrn
  obtain ⟨b3, b4⟩ := H2.out r hrn
  obtain ⟨b5, b6⟩ := H3.out r hrn
  clear hp3 v1 v2 v3 v4 oE oX3
  go_upto_region 27 with (fail)
  clear k0
  have nh1 := hok.out.hk
  have nh2 := hok.out.kg
  go_region
  have hd0 := (Below.refl ((W3.setCell ⟨B.g, r, none⟩ (.int .i64 (p.picked r))).setCell ⟨B.k, r, none⟩ (.int .i64 (0))).heap.size ((W3.setCell ⟨B.g, r, none⟩ (.int .i64 (p.picked r))).setCell ⟨B.k, r, none⟩ (.int .i64 (0)))).drew
  have u1 : Vec (((W3.setCell ⟨B.g, r, none⟩ (.int .i64 (p.picked r))).setCell ⟨B.k, r, none⟩ (.int .i64 (0))).drew) B.f n p.free := ((V1.out.other hok.out.fg).other hok.out.fk).same hd0
  have u2 : Vec (((W3.setCell ⟨B.g, r, none⟩ (.int .i64 (p.picked r))).setCell ⟨B.k, r, none⟩ (.int .i64 (0))).drew) B.h n p.held := ((V2.out.other hok.out.hg).other hok.out.hk).same hd0
  have u3 : Vec (((W3.setCell ⟨B.g, r, none⟩ (.int .i64 (p.picked r))).setCell ⟨B.k, r, none⟩ (.int .i64 (0))).drew) B.k n (upd p.picked r (0)) := ((V3.out.other hok.out.kg).set hrn _).same hd0
  have u4 : Vec (((W3.setCell ⟨B.g, r, none⟩ (.int .i64 (p.picked r))).setCell ⟨B.k, r, none⟩ (.int .i64 (0))).drew) B.g n (upd p.gone r (p.picked r)) := ((V4.out.set hrn _).other (fun e => hok.out.kg e.symm)).same hd0
  have hgA := grownBy_set W3 B.g r (.int .i64 (p.picked r))
  have hgB := grownBy_set (W3.setCell ⟨B.g, r, none⟩ (.int .i64 (p.picked r))) B.k r (.int .i64 (0))
  have hk4 := ((HK3.out.trans (Kept.of_grown hgA fun i hi => ⟨Nat.lt_of_lt_of_le hi.1 HK3.out.size, fun e => hi.2 (by cases e; simp)⟩)).trans (Kept.of_grown hgB fun i hi => ⟨Nat.lt_of_lt_of_le hi.1 (Nat.le_trans HK3.out.size hgA.size), fun e => hi.2 (by cases e; simp)⟩)).trans (Kept.of_below hd0 fun i hi => Nat.lt_of_lt_of_le hi.1 (Nat.le_trans (Nat.le_trans HK3.out.size hgA.size) hgB.size))
  have oE4 := ((OE.out.kept hgA (fun e => by have e2 : eb = B.g := Option.some.inj e; omega)).kept hgB (fun e => by have e2 : eb = B.k := Option.some.inj e; omega)).same hd0
  have z4 : eb < (((W3.setCell ⟨B.g, r, none⟩ (.int .i64 (p.picked r))).setCell ⟨B.k, r, none⟩ (.int .i64 (0))).drew).heap.size := oE4.lt
  clear hgA hgB hd0
  generalize ((W3.setCell ⟨B.g, r, none⟩ (.int .i64 (p.picked r))).setCell ⟨B.k, r, none⟩ (.int .i64 (0))).drew = W4 at *
  clear q1 q2 q3 q4 y1 y2 y3 y4 p10 p11 p12 p13 p5
  have g0 : W4.cell? ⟨eb, 0, none⟩ = some (.int .i64 0) := oE4.cell rfl
  have f0 := oE4.frozen 0
  have oE5 : Ob (W4.setCell ⟨eb, 0, none⟩ (.int .i64 8)) eb 44 #[.int .i64 8, .int .i64 r, .slice none 0 0] := oE4.set 0 (.int .i64 8)
  have hg5 := grownBy_set W4 eb 0 (.int .i64 8)
  have hk5 := hk4.trans (Kept.of_grown hg5 fun i hi => ⟨Nat.lt_of_lt_of_le hi.1 hk4.size, fun e => by have e2 : eb = i := (Option.some.inj e).symm; have := HEB.out; have := hi.1; omega⟩)
  have u1 := u1.kept hg5 (fun e => by have e2 : B.f = eb := Option.some.inj e; omega)
  have u2 := u2.kept hg5 (fun e => by have e2 : B.h = eb := Option.some.inj e; omega)
  have u3 := u3.kept hg5 (fun e => by have e2 : B.k = eb := Option.some.inj e; omega)
  have u4 := u4.kept hg5 (fun e => by have e2 : B.g = eb := Option.some.inj e; omega)
  go_upto_region 29 with (fail)
  clear g0 f0 oE4 hk4 hg5 z4
  generalize W4.setCell ⟨eb, 0, none⟩ (.int .i64 8) = W5 at *
  have dp : decide (0 < p.picked r) = true := by simpa using hpos
  have hal6 := (Below.refl W5.heap.size W5).alloc (Nat.le_refl _) (.cells #[.string ⟨#[97]⟩, .int .i64 (p.picked r)] 41)
  have hit : Sl (W5.alloc (.cells #[.string ⟨#[97]⟩, .int .i64 (p.picked r)] 41)) W5.heap.size (W5.heap.size + 1) 2 (.slice (some ⟨W5.heap.size, 0, none⟩) 1 1) 1 [.string ⟨#[97]⟩, .int .i64 (p.picked r)] := Sl.new W5 #[.string ⟨#[97]⟩, .int .i64 (p.picked r)] 41 (n := 1) (size := 2) rfl (by unfold maxLen; omega)
  have oE5a := oE5.same hal6
  have hg6 := grownBy_set (W5.alloc (.cells #[.string ⟨#[97]⟩, .int .i64 (p.picked r)] 41)) eb 2 (.slice (some ⟨W5.heap.size, 0, none⟩) 1 1)
  have oE6 : Ob ((W5.alloc (.cells #[.string ⟨#[97]⟩, .int .i64 (p.picked r)] 41)).setCell ⟨eb, 2, none⟩ (.slice (some ⟨W5.heap.size, 0, none⟩) 1 1)) eb 44 #[.int .i64 8, .int .i64 r, .slice (some ⟨W5.heap.size, 0, none⟩) 1 1] := oE5a.set 2 (.slice (some ⟨W5.heap.size, 0, none⟩) 1 1)
  have g2 : (W5.alloc (.cells #[.string ⟨#[97]⟩, .int .i64 (p.picked r)] 41)).cell? ⟨eb, 2, none⟩ = some (.slice none 0 0) := oE5a.cell rfl
  have f2 := oE5a.frozen 2
  have hel := oE5.lt
  have hsa : (W5.alloc (.cells #[.string ⟨#[97]⟩, .int .i64 (p.picked r)] 41)).heap.size = W5.heap.size + 1 := World.size_alloc _ _
  have HSA := Lib.hid hsa
  have hit6 : ItemsAt ((W5.alloc (.cells #[.string ⟨#[97]⟩, .int .i64 (p.picked r)] 41)).setCell ⟨eb, 2, none⟩ (.slice (some ⟨W5.heap.size, 0, none⟩) 1 1)) 0 ((W5.alloc (.cells #[.string ⟨#[97]⟩, .int .i64 (p.picked r)] 41)).setCell ⟨eb, 2, none⟩ (.slice (some ⟨W5.heap.size, 0, none⟩) 1 1)).heap.size (.slice (some ⟨W5.heap.size, 0, none⟩) 1 1) (it1 (p.picked r)) := by
    rw [it1_pos hpos]
    have hk : Kept (fun i => W5.heap.size ≤ i ∧ i < W5.heap.size + 1) (W5.alloc (.cells #[.string ⟨#[97]⟩, .int .i64 (p.picked r)] 41)) ((W5.alloc (.cells #[.string ⟨#[97]⟩, .int .i64 (p.picked r)] 41)).setCell ⟨eb, 2, none⟩ (.slice (some ⟨W5.heap.size, 0, none⟩) 1 1)) := Kept.of_grown hg6 fun i hi => ⟨by rw [hsa]; exact hi.2, fun e => by have e2 : eb = i := (Option.some.inj e).symm; have := hi.1; omega⟩
    exact (hk.sl hit fun i ha hb => ⟨ha, hb⟩).wide (Nat.zero_le _) (by rw [← hsa]; exact hg6.size)
  have hk6 := (hk5.trans (Kept.of_below hal6 fun i hi => Nat.lt_of_lt_of_le hi.1 hk5.size)).trans (Kept.of_grown hg6 fun i hi => ⟨Nat.lt_of_lt_of_le hi.1 (Nat.le_trans hk5.size hal6.size), fun e => by have e2 : eb = i := (Option.some.inj e).symm; have := HEB.out; have := hi.1; omega⟩)
  have u1 := (u1.same hal6).kept hg6 (fun e => by have e2 : B.f = eb := Option.some.inj e; omega)
  have u2 := (u2.same hal6).kept hg6 (fun e => by have e2 : B.h = eb := Option.some.inj e; omega)
  have u3 := (u3.same hal6).kept hg6 (fun e => by have e2 : B.k = eb := Option.some.inj e; omega)
  have u4 := (u4.same hal6).kept hg6 (fun e => by have e2 : B.g = eb := Option.some.inj e; omega)
  clear oE5 oE5a hit hsa hg6 hk5 hel hal6
  go_upto_region 31 with (fail)
  clear g2 f2 dp
  generalize (W5.alloc (.cells #[.string ⟨#[97]⟩, .int .i64 (p.picked r)] 41)).setCell ⟨eb, 2, none⟩ (.slice (some ⟨W5.heap.size, 0, none⟩) 1 1) = W6 at *
  obtain ⟨ve, hve⟩ : ∃ ve : Value, Value.slice (some ⟨W5.heap.size, 0, none⟩) 1 1 = ve := ⟨_, rfl⟩
  rw [hve] at oE6 hit6
  obtain ⟨Av, cv, hvv⟩ : ∃ A c, ve = .slice A (it1 (p.picked r)).length c := by obtain ⟨A, c, e, -⟩ := hit6.form; exact ⟨A, c, e⟩
  clear hve
  obtain ⟨hp6, hpl6⟩ := HP2.out.nums (q := { p with way := rest, gone := upd p.gone r (p.picked r), picked := upd p.picked r 0 }) rfl rfl hk6 u1 u2 u3 u4
  have c5 : W6.cell? ⟨B.b, 5, none⟩ = some (.int .i64 p.s.state) := hp6.ob.cell rfl
  have cT := tellp_calls B n { p with way := rest, gone := upd p.gone r (p.picked r), picked := upd p.picked r 0 } q vw vg vp vy2 ⟨8, r, it1 (p.picked r)⟩ ve W6 hp6 hF hit6 ((it1_M (by omega)).fits) (by have := HRL.out; show rest.length ≤ 1000; exact this) (fun u hu => next_len hu) HT.out
  obtain ⟨ec, hec⟩ : ∃ ec, evC ⟨8, r, it1 (p.picked r)⟩ ve = ec := ⟨_, rfl⟩
  have he1 : ec.size = 3 := by rw [← hec]; rfl
  rw [hec] at cT
  rw [show #[.int .i64 8, .int .i64 r, ve] = ec from hec] at oE6
  have cT := Lib.hid cT
  have HPL6 := Lib.hid (Plays.trans HPL.out hpl6 (fun i hi => .inl (HV2.out i hi)))
  have hs6 : w.heap.size ≤ W6.heap.size := Nat.le_trans (Nat.le_of_lt hw2) (Kept.size hk6)
  clear hec hp6 hpl6 hk6 u1 u2 u3 u4 hit6
  go_upto_region 34 with (first | (refine wpList_load_obg (by rfl) _ _ rfl rfl _ oE6 Try.underlying44 rfl (by rw [he1]; kernel_rfl) ?_) | (go_at_call 16; refine cT.out.mono ?_; rintro e W7 ⟨rfl, ⟨zw, zg, zp, zy, hp7, hz7⟩, hpl7⟩))
  clear c5 oE6 cT
  have c7 : W7.cell? ⟨B.b, 5, none⟩ = some (.int .i64 q.s.state) := hp7.ob.cell rfl
  have e0 : (p.s.state != 0) = true := by simpa using hs0
  have e1 : (q.s.state != 0) = true := by simpa using hs1
  have HP7 := Lib.hid hp7
  have HZ7 := Lib.hid hz7
  have HPL7 := Lib.hid hpl7
  clear hp7 hz7 hpl7
  go_wp2
  go_ret
  exact ⟨rfl, ⟨_, _, _, _, HP7.out, fun i hi => (HZ7.out i hi).elim (fun hx => .inl (HV2.out i hx)) (fun hx => .inr (by omega))⟩, Plays.trans HPL6.out HPL7.out (fun i hi => .inl (HV2.out i hi))⟩
end Sa
end Go.Proofs.Ythfpfomifebpbaa
