/-
  sagas played: tell.
-/
import Derived.Test.YthfpfomifebpbaaPz6
import Derived.Test.YthfpfomifebpbaaSs6
import Derived.Test.YthfpfomifebpbaaSs4

set_option linter.unusedVariables false
set_option linter.unusedSimpArgs false
namespace Go.Proofs.Ythfpfomifebpbaa
open Go.RowKit Go.Maps
namespace Sa
open It
set_option linter.unusedSimpArgs false

theorem stepInfo : (Try.prog.info? 52).map (fun i => (i.zero, i.size, i.bytes)) = some (some (.agg #[.int .i64 0, .int .i64 0, .slice none 0 0, .int .i64 0]), 4, 48) := by kernel_rfl
theorem tell_inv {p q : Play} {ev : Ev} {r : Except Int (Saga × List Step)} (hr : nextS p.s ev = r) (hq : tellP p ev = some q) : (∃ x, r = .error x ∧ (x = 80 ∨ x = 5) ∧ q = p) ∨ (∃ u, r = .ok u ∧ mayS u.1 = true ∧ q = { p with s := u.1, way := p.way ++ sent u.2 }) := by
  unfold tellP at hq
  rw [hr] at hq
  cases r with
  | error x =>
    dsimp only at hq
    split at hq
    · rename_i hx
      cases hq
      exact .inl ⟨x, rfl, hx, rfl⟩
    · cases hq
  | ok u =>
    dsimp only at hq
    split at hq
    · rename_i hx
      cases hq
      exact .inr ⟨u, rfl, hx, rfl⟩
    · cases hq
theorem fit_may {s : Saga} (h : mayS s = true) : Fit s := ⟨(mayS_M h).1.fits, fun l hl => ((mayS_M h).2.1 l hl).fits⟩
theorem sent_snoc {l : List Step} {k : Nat} (hk : k < l.length) : sent (l.take (k + 1)) = sent (l.take k) ++ (if (l.getD k step0).kind ≠ 100 then [l.getD k step0] else []) := by
  unfold sent
  rw [List.take_succ_eq_append_getElem hk, List.filter_append, show l.getD k step0 = l[k] by simp [List.getD, hk]]
  congr 1
  by_cases h : l[k].kind = 100 <;> simp [h]
theorem StepsA.turn {Av : Nat → Prop} {W2 W3 : World} {v v' u : Value} {l : List Step} (h : StepsA (fun i => Av i ∨ v.ownBlock = some i) W2 u l) (hg : W2.grownBy W3 v.ownBlock) (hat : v'.ownBlock = v.ownBlock ∨ v'.ownBlock = some W2.heap.size) :
    StepsA (fun i => Av i ∨ v'.ownBlock = some i) W3 u l := by
  obtain ⟨vs, h1, h2, h3⟩ := h
  exact ⟨vs, h1, h2.turn hg hat, fun k hk => (h3 k hk).turn hg hat⟩
theorem StepsA.cellA {Av : Nat → Prop} {w : World} {A : Option Addr} {n c j : Nat} {l : List Step} (h : StepsA Av w (.slice A n c) l) (hj : j < l.length) :
    ∃ b o x, A = some ⟨b, o, none⟩ ∧ b < w.heap.size ∧ ¬ Av b ∧ w.cell? ⟨b, o + j * 4, none⟩ = some (.int .i64 (l.getD j step0).kind) ∧ w.cell? ⟨b, o + j * 4 + 1, none⟩ = some (.int .i64 (l.getD j step0).region) ∧ w.cell? ⟨b, o + j * 4 + 2, none⟩ = some x ∧ w.cell? ⟨b, o + j * 4 + 3, none⟩ = some (.int .i64 (l.getD j step0).state) ∧ SlA Av w 2 x (l.getD j step0).items.length (itemCells (l.getD j step0).items) := by
  obtain ⟨vs, h1, h2, h3⟩ := h
  have h3j := h3 j hj
  obtain ⟨lo, Bd, m1, m2, m3⟩ := h2
  obtain ⟨A', c', e, a, b, hc⟩ := m3.at_
  cases e
  obtain ⟨b, o, e1, e2, e3, e4⟩ := hc (by omega)
  obtain ⟨q0, q1, q2, q3⟩ := stepsC_get l vs j h1 hj
  refine ⟨b, o, _, e1, by omega, m2 b e2 e3, ?_, ?_, ?_, ?_, h3j⟩
  · rw [e4 (j * 4) (by omega)]; exact q0
  · rw [Nat.add_assoc, e4 (j * 4 + 1) (by omega)]; exact q1
  · rw [Nat.add_assoc, e4 (j * 4 + 2) (by omega)]; exact q2
  · rw [Nat.add_assoc, e4 (j * 4 + 3) (by omega)]; exact q3
theorem range4 {w : World} {b o : Nat} {a0 a1 a2 a3 : Value} (h0 : w.cell? ⟨b, o, none⟩ = some a0) (h1 : w.cell? ⟨b, o + 1, none⟩ = some a1) (h2 : w.cell? ⟨b, o + 2, none⟩ = some a2) (h3 : w.cell? ⟨b, o + 3, none⟩ = some a3) : w.rangeAt b o [a0, a1, a2, a3] := fun j v hj => by
  rcases j with _ | _ | _ | _ | j
  · cases hj; exact h0
  · cases hj; exact h1
  · cases hj; exact h2
  · cases hj; exact h3
  · cases hj

set_option maxRecDepth 100000 in
set_option maxHeartbeats 8000000 in
theorem tellp_calls (B : Bl) (n : Nat) (p q : Play) (vw vg vp vy : Value) (ev : Ev) (ve : Value) (w : World) (h : PlayAt w B n p vw vg vp vy) (hF : Fit p.s) (hv : ItemsAt w 0 w.heap.size ve ev.items) (hFe : Fits ev.items) (hl : p.way.length ≤ 1000) (hl8 : ∀ u, nextS p.s ev = .ok u → u.2.length ≤ 8) (hq : tellP p ev = some q) :
    Calls Try.prog 16 #[.pointer (some ⟨B.b, 0, none⟩), .agg (evC ev ve)] w fun e w' => e = .returned (.bool true) ∧ (∃ vw' vg' vp' vy', PlayAt w' B n q vw' vg' vp' vy' ∧ ∀ i, vy'.ownBlock = some i → vy.ownBlock = some i ∨ w.heap.size ≤ i) ∧ Plays B vy w w' := by
  have hmx : Try.prog.follows .mixedOrders = true := by kernel_rfl
  obtain ⟨A, c, rfl, -⟩ := hv.form
  obtain ⟨ec, hec⟩ : ∃ ec, evC ev (.slice A ev.items.length c) = ec := ⟨_, rfl⟩
  obtain ⟨sl, hsl⟩ : ∃ sl : List Value, sagaC p.s vw vg vp = sl.toArray := ⟨_, (Array.toArray_toList).symm⟩
  obtain ⟨r, hr⟩ : ∃ r, nextS p.s ev = r := ⟨_, rfl⟩
  have he1 : ec.size = 3 := by rw [← hec]; rfl
  have hs1 : sl.length = 10 := by rw [← List.size_toArray, ← hsl]; rfl
  have hinv := Lib.hid (tell_inv hr hq)
  have cN0 := (fun V (hb : Below w.heap.size w V) => next_fresh p.s vw vg vp ev (.slice A ev.items.length c) V (h.parts.parts.later hb) hF (hv.mono hb hb.size) hFe)
  rw [hr, hec, hsl] at cN0
  rw [hr] at hl8
  have cN := Lib.hid cN0
  rw [hec]
  have h0 := Lib.hid h
  have hlen := Lib.hid (fun (l : List Step) => show (p.way ++ sent l).length ≤ 1000 + l.length by rw [List.length_append]; have : (sent l).length ≤ l.length := List.length_filter_le _ _; omega)
  have oE := Ob.new w 44 ec
  have hal := (Below.refl w.heap.size w).alloc (Nat.le_refl _) (.cells ec 44)
  have hp := h.same hal
  have hsz : (w.alloc (.cells ec 44)).heap.size = w.heap.size + 1 := World.size_alloc _ _
  have HSZ := Lib.hid hsz
  have HSL := Lib.hid hsl
  obtain ⟨i0, hi0, hz0⟩ := Option.map_eq_some_iff.1 stepInfo
  simp only [Prod.mk.injEq] at hz0
  obtain ⟨hz0, hz1, hz2⟩ := hz0
  have HI0 := Lib.hid (And.intro hi0 (And.intro hz0 (And.intro hz1 hz2)))
  clear h hv hec hr hq hsl hsz cN0 hi0 hz0 hz1 hz2
  go_enter Try.func16, Try.ntmps16
  go_upto_region 1 with (fail)
  generalize w.alloc (.cells ec 44) = W0 at *
  have hdr := (Below.refl W0.heap.size W0).drew
  have hp := hp.same hdr
  have oE := oE.same hdr
  have hB := hal.drew
  clear hal hdr
  refine Pt.regionT (.look 0 (.look 1 (.look 2 (.look 3 (.look 4 (.fork 5 (.look 6 (.look 7 (.look 8 (.look 9 (.make 10 (.make 11 (.look 12 (.look 13 .nil)))))))) 10 (.make 5 (.look 6 (.look 7 (.look 8 (.look 9 (.make 11 (.look 12 (.look 13 .nil)))))))))))))) (fun V => Ob V B.b 39 (playC p.s vw vg vp B.f B.h B.k B.g n B.cf vy) ∧ Ob V w.heap.size 44 ec) hmx (by kernel_rfl) (by kernel_rfl) (by kernel_rfl) ⟨hp.ob, oE⟩ rfl ?_
  simp only [Pt.named, List.getElem?_toArray, List.getElem?_cons_succ, List.getElem?_cons_zero, Option.map_some]
  iterate 5 (
    apply Pt.WalkT.on (by rfl)
    · rintro V ⟨y1, y2⟩
      have rg := play_range y1
      rw [HSL.out, List.toList_toArray] at rg
      go_wp2_with (first | (refine wpList_load_midg (by rfl) 27 (.tmp 12) rfl rfl sl _ rg Try.underlying27 rfl (by rw [hs1]; kernel_rfl) ?_) | (refine wpList_load_obg (by rfl) _ _ rfl rfl _ y2 Try.underlying44 rfl (by rw [he1]; kernel_rfl) ?_))
      refine ⟨rfl, ?_, rfl⟩
      try simp only [Act.put, List.setIfInBounds_toArray, List.set_cons_succ, List.set_cons_zero]
      rfl
    simp only [Act.put, List.setIfInBounds_toArray, List.set_cons_succ, List.set_cons_zero])
  generalize W0.drew = W1 at *
  have hwz := hB.size
  have hwl := oE.lt
  refine Pt.WalkT.fork (by rfl) (by rfl) ?_ ?_
  · intro W hWJ
    cases hWJ.symm
    go_wp2_with (go_at_call 20; refine (cN.out W1 hB).mono ?_; rintro e W2 ⟨hr2, hb2⟩; obtain ⟨y, A1, n1, c1, A2, n2, c2, A3, n3, c3, A4, n4, c4, xx, rfl, hgv⟩ := hr2.form; clear hr2)
    have hp2 := hp.same hb2
    have oE2 := oE.same hb2
    have hB2 := hB.trans (hb2.mono hB.size)
    have hs2 := hb2.size
    refine ⟨rfl, .tuple #[.agg (sagaC y (.slice A1 n1 c1) (.slice A2 n2 c2) (.slice A3 n3 c3)), .slice A4 n4 c4, .int .i64 xx], _, (fun V => V = W2), ?_, rfl, (fun V h => by rw [h]; exact ⟨hp2.ob, oE2⟩), (.inr (fun _ h => h)), ?_⟩
    · simp only [Act.put, List.setIfInBounds_toArray, List.set_cons_succ, List.set_cons_zero]
    simp only [Act.put, List.setIfInBounds_toArray, List.set_cons_succ, List.set_cons_zero]
    iterate 4 (
      apply Pt.WalkT.on (by rfl)
      · intro V hV
        go_wp2_with fail
        refine ⟨rfl, ?_, rfl⟩
        try simp only [Act.put, List.setIfInBounds_toArray, List.set_cons_succ, List.set_cons_zero]
        rfl
      simp only [Act.put, List.setIfInBounds_toArray, List.set_cons_succ, List.set_cons_zero])
    refine Pt.WalkT.make (by rfl) ?_
    intro W hWJ
    cases hWJ.symm
    have halk := (Below.refl W2.heap.size W2).alloc (Nat.le_refl _) (.cells #[.int .i64 0, .int .i64 0, .int .i64 0, .slice none 0 0, .bool false, .int .i64 0, .int .i64 0, .slice none 0 0, .slice none 0 0, .bool false] 27)
    have hpq := hp2.same halk
    have oEq := oE2.same halk
    have hq0 := Ob.new W2 27 #[.int .i64 0, .int .i64 0, .int .i64 0, .slice none 0 0, .bool false, .int .i64 0, .int .i64 0, .slice none 0 0, .slice none 0 0, .bool false]
    have hBq := hB2.trans (halk.mono hB2.size)
    have hzq : (W2.alloc (.cells #[.int .i64 0, .int .i64 0, .int .i64 0, .slice none 0 0, .bool false, .int .i64 0, .int .i64 0, .slice none 0 0, .slice none 0 0, .bool false] 27)).heap.size = W2.heap.size + 1 := World.size_alloc _ _
    have HZQ := Lib.hid hzq
    go_wp2_with fail
    refine ⟨rfl, .pointer (some ⟨W2.heap.size, 0, none⟩), _, (fun V => V = _), ?_, rfl, (fun V h => by rw [h]; exact ⟨hpq.ob, oEq⟩), (.inr (fun _ h => h)), ?_⟩
    · simp only [Act.put, List.setIfInBounds_toArray, List.set_cons_succ, List.set_cons_zero]
    simp only [Act.put, List.setIfInBounds_toArray, List.set_cons_succ, List.set_cons_zero]
    clear hzq
    generalize W2.alloc (.cells #[.int .i64 0, .int .i64 0, .int .i64 0, .slice none 0 0, .bool false, .int .i64 0, .int .i64 0, .slice none 0 0, .slice none 0 0, .bool false] 27) = WQ at *
    refine Pt.WalkT.make (by rfl) ?_
    intro W hWJ
    cases hWJ.symm
    go_wp2_with (refine wpList_store_ob (cells := (sagaC y (.slice A1 n1 c1) (.slice A2 n2 c2) (.slice A3 n3 c3))) rfl 27 (.tmp 5) (.tmp 16) rfl rfl rfl hq0 rfl (by kernel_rfl) (by simp [sagaC, Value.oneCell']) ?_; intro W4 ho4 hg4)
    have hobz := (hpq.ob).kept hg4 (fun e => by have e2 : B.b = W2.heap.size := Option.some.inj e; have := h0.out.ob.lt; omega)
    have oEz := (oEq).kept hg4 (fun e => by have e2 : w.heap.size = W2.heap.size := Option.some.inj e; omega)
    refine ⟨rfl, undef, _, (fun V => V = W4), ?_, rfl, (fun V h => by rw [h]; exact ⟨hobz, oEz⟩), (.inr (fun _ h => h)), ?_⟩
    · simp only [Act.put, List.setIfInBounds_toArray, List.set_cons_succ, List.set_cons_zero]
    simp only [Act.put, List.setIfInBounds_toArray, List.set_cons_succ, List.set_cons_zero]
    clear hobz oEz
    iterate 2 (
      apply Pt.WalkT.on (by rfl)
      · intro V hV
        go_wp2_with fail
        refine ⟨rfl, ?_, rfl⟩
        try simp only [Act.put, List.setIfInBounds_toArray, List.set_cons_succ, List.set_cons_zero]
        rfl
      simp only [Act.put, List.setIfInBounds_toArray, List.set_cons_succ, List.set_cons_zero])
    refine Pt.WalkT.nil ?_
    rintro V hVJ
    cases hVJ.symm
    have hs4 := hg4.size
    have hb4 : Below W2.heap.size W2 W4 := halk.grown hg4 (by have := HZQ.out; omega) (fun g e => by have e2 : W2.heap.size = g := Option.some.inj e; omega)
    have hp4 := hp2.same hb4
    have hpl : Plays B vy w W4 := Plays.of_below (hB2.trans (hb4.mono hB2.size))
    have hk : Kept (fun i => W1.heap.size ≤ i ∧ i < W2.heap.size) W2 W4 := Kept.of_below hb4 fun i hi => hi.2
    obtain ⟨lo, hlo⟩ : ∃ lo, W1.heap.size = lo := ⟨_, rfl⟩
    rw [hlo] at hgv hk
    have hlw : w.heap.size ≤ lo := by rw [← hlo]; exact hwz
    clear hb4 hg4 hlo
    rcases hinv.out with ⟨x, rfl, hx, rfl⟩ | ⟨u, rfl, hum, rfl⟩
    · cases hgv.1
      rcases hx with rfl | rfl
      all_goals
        go_wp2
        go_ret
        exact ⟨rfl, ⟨_, _, _, _, hp4, fun i hi => .inl hi⟩, hpl⟩
    · obtain ⟨rfl, rfl, hP, hS⟩ := hgv
      have HUM := Lib.hid hum
      clear hum
      have hav : ∀ i, B.av vy i → i < lo := fun i hi => by have := h0.out.lt i hi; omega
      have hP4 : PartsA (B.av vy) W4 u.1 (.slice A1 n1 c1) (.slice A2 n2 c2) (.slice A3 n3 c3) := PartsA.of (hP.kept hk fun i ha hb => ⟨ha, hb⟩) hk.size fun i ha hb hx => by have := hav i hx; omega
      have hS4 : StepsA (B.av vy) W4 (.slice A4 n4 c4) u.2 := StepsA.of (hS.kept hk fun i ha hb => ⟨ha, hb⟩) hk.size fun i ha hb hx => by have := hav i hx; omega
      obtain ⟨A5, c5, e5⟩ := hS4.form
      cases e5
      clear hP hS hk hav
      have cM := Lib.hid (sagamay_calls u.1 _ _ _ W4 hP4.parts (fit_may HUM.out))
      rw [HUM.out] at cM
      have HS4 := Lib.hid hS4
      have HP4 := Lib.hid hP4
      clear hS4 hP4
      go_upto_region 6 with (first | (refine wpList_load_obg (by rfl) _ _ rfl rfl _ ho4 Try.underlying27 rfl (by kernel_rfl) ?_) | (go_at_call 26; refine cM.out.mono ?_; rintro e W5 ⟨rfl, hb5⟩))
      have ho4 := ho4.same hb5
      have hp5 := hp4.same hb5
      have hP5 := HP4.out.later hb5
      have hS5 := HS4.out.later hb5
      have hpl5 := Plays.trans hpl (Plays.of_below (B := B) (vy := vy) hb5) (fun i hi => .inl hi)
      clear hb5 hp4 hpl cM HS4 HP4
      obtain ⟨hp6, hpl6⟩ := hp5.saga hP5
      have hpl6 := Plays.trans hpl5 hpl6 (fun i hi => .inl hi)
      have hS6 : StepsA (B.av vy) (W5.setCells B.b 0 (sagaC u.1 (.slice A1 n1 c1) (.slice A2 n2 c2) (.slice A3 n3 c3)).toList) (.slice A4 u.2.length c4) u.2 := hS5.grow (grown_cells _ _ _) (.inl (.inl rfl))
      have hth := play_there hp5.ob
      have HL := Lib.hid hl
      have HL8 := Lib.hid (hl8 u rfl)
      clear hp5 hP5 hS5 hpl5 hl hl8
      go_wp2_with (first | (refine wpList_load_obg (by rfl) _ _ rfl rfl _ ho4 Try.underlying27 rfl (by kernel_rfl) ?_) | (refine wpList_store_mid rfl 27 (.tmp 33) (.tmp 31) rfl B.b 0 (sagaC u.1 (.slice A1 n1 c1) (.slice A2 n2 c2) (.slice A3 n3 c3)) rfl rfl hth (by kernel_rfl) (by simp [sagaC, Value.oneCell']) ?_))
      generalize W5.setCells B.b 0 (sagaC u.1 (.slice A1 n1 c1) (.slice A2 n2 c2) (.slice A3 n3 c3)).toList = W6 at *
      clear hth ho4
      go_loopw [8] (fun i wr => ∃ (k : Nat) (vz : Value), k ≤ u.2.length ∧ i = .int .i64 k ∧ PlayAt wr B n { p with s := u.1, way := p.way ++ sent (u.2.take k) } (.slice A1 n1 c1) (.slice A2 n2 c2) (.slice A3 n3 c3) vz ∧ (∀ i, vz.ownBlock = some i → vy.ownBlock = some i ∨ w.heap.size ≤ i) ∧ StepsA (B.av vz) wr (.slice A4 u.2.length c4) u.2 ∧ Plays B vy w wr) (fun i _ => u.2.length - (intOf i).toNat)
      case atStart => exact ⟨0, vy, by omega, rfl, by rw [List.take_zero, show sent [] = [] from rfl, List.append_nil]; exact hp6, fun i hi => .inl hi, hS6, hpl6⟩
      case round =>
        clear hp6 hS6 hpl6
        obtain ⟨k, vz, hk, rfl, hp, hvz, hS, hpl⟩ := hrel
        have HVZ := Lib.hid hvz
        clear hvz
        by_cases hlt : k < u.2.length
        · have hd : decide (k < u.2.length) = true := by simpa using hlt
          have hk8 : k < 8 := Nat.lt_of_lt_of_le hlt HL8.out
          obtain ⟨bs, os, xv, rfl, hbs, hba, k0, k1, k2, k3, hx⟩ := hS.cellA hlt
          obtain ⟨Ax, cx, rfl, -⟩ := hx.form
          have HBA := Lib.hid hba
          clear hba
          have HSN := Lib.hid (sent_snoc hlt)
          generalize u.2.getD k step0 = x at *
          by_cases hkd : x.kind = 100
          · have hd2 : (x.kind != 100) = false := by simp [hkd]
            rw [if_neg (by simp [hkd]), List.append_nil] at HSN
            have HP := Lib.hid hp
            have HS := Lib.hid hS
            have HPL := Lib.hid hpl
            clear hp hS hpl hx
            go_wp2
            go_roundw
            case rel => exact ⟨k + 1, vz, by omega, by go_num, by rw [HSN.out]; exact HP.out, HVZ.out, HS.out, HPL.out⟩
            case measure => simp [intOf]; omega
          · have hd2 : (x.kind != 100) = true := by simp [hkd]
            rw [if_pos hkd] at HSN
            have hd0 := (Below.refl wr.heap.size wr).drew
            have HPR := Lib.hid (hp.same hd0)
            have HSR := Lib.hid (hS.later hd0)
            have hx := hx.later hd0
            have HPL := Lib.hid (Plays.trans hpl (Plays.of_below (B := B) (vy := vz) hd0) HVZ.out)
            have hbs : bs < wr.drew.heap.size := hbs
            have hob : Ob wr.drew B.b 39 (playC u.1 (.slice A1 n1 c1) (.slice A2 n2 c2) (.slice A3 n3 c3) B.f B.h B.k B.g n B.cf vz) := (hp.same hd0).ob
            have r0 : wr.drew.cell? ⟨bs, os + k * 4, none⟩ = some (.int .i64 x.kind) := k0
            have r1 : wr.drew.cell? ⟨bs, os + k * 4 + 1, none⟩ = some (.int .i64 x.region) := k1
            have r2 : wr.drew.cell? ⟨bs, os + k * 4 + 2, none⟩ = some (.slice Ax x.items.length cx) := k2
            have r3 : wr.drew.cell? ⟨bs, os + k * 4 + 3, none⟩ = some (.int .i64 x.state) := k3
            have rg := range4 r0 r1 r2 r3
            clear hp hS hpl k1 k2 k3 r0 r1 r2 r3
            go_upto_region 11 with (fail)
            clear k0 hd0 hd hd2
            refine Pt.regionT (.look 0 (.look 1 (.look 2 (.look 3 (.look 4 (.look 5 (.look 6 (.look 7 (.look 8 (.look 11 (.look 12 (.make 9 (.make 10 (.make 13 .nil)))))))))))))) (fun V => Ob V B.b 39 (playC u.1 (.slice A1 n1 c1) (.slice A2 n2 c2) (.slice A3 n3 c3) B.f B.h B.k B.g n B.cf vz) ∧ V.rangeAt bs (os + k * 4) [.int .i64 x.kind, .int .i64 x.region, .slice Ax x.items.length cx, .int .i64 x.state]) hmx (by kernel_rfl) (by kernel_rfl) (by kernel_rfl) ⟨hob, rg⟩ rfl ?_
            simp only [Pt.named, List.getElem?_toArray, List.getElem?_cons_succ, List.getElem?_cons_zero, Option.map_some]
            iterate 11 (
              apply Pt.WalkT.on (by rfl)
              · rintro V ⟨y1, y2⟩
                have g14 : V.cell? ⟨B.b, 14, none⟩ = some vz := y1.cell rfl
                go_wp2_with (refine wpList_load_midg (by rfl) 52 (.tmp 53) rfl rfl _ _ y2 Try.underlying52 rfl (by kernel_rfl) ?_)
                refine ⟨rfl, ?_, rfl⟩
                try simp only [Act.put, List.setIfInBounds_toArray, List.set_cons_succ, List.set_cons_zero]
                rfl
              simp only [Act.put, List.setIfInBounds_toArray, List.set_cons_succ, List.set_cons_zero])
            generalize wr.drew = U0 at *
            refine Pt.WalkT.make (by rfl) ?_
            intro W hWJ
            cases hWJ.symm
            have hal := (Below.refl U0.heap.size U0).alloc (Nat.le_refl _) (.cells #[.int .i64 x.kind, .int .i64 x.region, .slice Ax x.items.length cx, .int .i64 x.state] 52)
            have hll : Sl (U0.alloc (.cells #[.int .i64 x.kind, .int .i64 x.region, .slice Ax x.items.length cx, .int .i64 x.state] 52)) U0.heap.size (U0.heap.size + 1) 4 (.slice (some ⟨U0.heap.size, 0, none⟩) 1 1) 1 [.int .i64 x.kind, .int .i64 x.region, .slice Ax x.items.length cx, .int .i64 x.state] := Sl.new U0 #[.int .i64 x.kind, .int .i64 x.region, .slice Ax x.items.length cx, .int .i64 x.state] 52 (n := 1) (size := 4) rfl (by unfold maxLen; omega)
            have hpa := HPR.out.same hal
            have hsa := HSR.out.later hal
            have hxa := hx.later hal
            have hpla := Plays.trans HPL.out (Plays.of_below (B := B) (vy := vz) hal) HVZ.out
            have rga : (U0.alloc (.cells #[.int .i64 x.kind, .int .i64 x.region, .slice Ax x.items.length cx, .int .i64 x.state] 52)).rangeAt bs (os + k * 4) [.int .i64 x.kind, .int .i64 x.region, .slice Ax x.items.length cx, .int .i64 x.state] := fun j v hj => (hal.cell (p := ⟨bs, os + k * 4 + j, none⟩) hbs).trans (rg j v hj)
            go_wp2_with fail
            refine ⟨rfl, .slice (some ⟨U0.heap.size, 0, none⟩) 1 1, _, (fun V => V = U0.alloc (.cells #[.int .i64 x.kind, .int .i64 x.region, .slice Ax x.items.length cx, .int .i64 x.state] 52)), ?_, rfl, (fun V h => by rw [h]; exact ⟨hpa.ob, rga⟩), (.inr (fun _ h => h)), ?_⟩
            · simp only [Act.put, List.setIfInBounds_toArray, List.set_cons_succ, List.set_cons_zero]
            simp only [Act.put, List.setIfInBounds_toArray, List.set_cons_succ, List.set_cons_zero]
            have hbs1 := Nat.lt_of_lt_of_le hbs hal.size
            generalize U0.alloc (.cells #[.int .i64 x.kind, .int .i64 x.region, .slice Ax x.items.length cx, .int .i64 x.state] 52) = U1 at *
            clear HPR HSR hx HPL hob rg hal
            refine Pt.WalkT.make (by rfl) ?_
            intro W hWJ
            cases hWJ.symm
            have hW8 : (p.way ++ sent (u.2.take k)).length ≤ 1008 := by have := hlen.out (u.2.take k); have := List.length_take_le k u.2; omega
            obtain ⟨hi0, hz0, hz1, hz2⟩ := HI0.out
            obtain ⟨vs, hvl, hway, hvi⟩ := hpa.way
            have hpla2 : Plays B vy w U1 := hpla
            refine wpList_append_way rfl (.tmp 50) (.tmp 55) _ rfl 52 i0 _ 4 48 Try.underlying28 hi0 hz0 hz1 hz2 rfl vz _ _ rfl hway _ _ _ 1 _ (Nat.lt_succ_self 0) rfl hll (stepL_one (x := x) (v := .slice Ax x.items.length cx) rfl) (by show (p.way ++ sent (u.2.take k)).length + 1 ≤ maxLen; unfold maxLen; omega) (by show ((p.way ++ sent (u.2.take k)).length + 1) * 48 ≤ _; omega) ?_
            clear hi0 hz0 hz1 hz2
            intro v3 w3 hv3 hg3 hat3
            obtain ⟨hp4, hpl4⟩ := hpa.push (x := x) hvl hvi hxa hv3 hg3 hat3
            have hs4 : StepsA (B.av v3) (w3.setCell ⟨B.b, 14, none⟩ v3) (.slice (some ⟨bs, os, none⟩) u.2.length c4) u.2 := (StepsA.turn (Av := B.is) hsa hg3 hat3).grow (grownBy_set _ _ _ _) (.inl (.inl rfl))
            have hpl5 := Plays.trans hpla hpl4 HVZ.out
            have hob3 : Ob w3 B.b 39 (playC u.1 (.slice A1 n1 c1) (.slice A2 n2 c2) (.slice A3 n3 c3) B.f B.h B.k B.g n B.cf vz) := hpa.ob.kept hg3 (fun e => hpa.yne _ e.symm (.inl rfl))
            have rg3 : w3.rangeAt bs (os + k * 4) [.int .i64 x.kind, .int .i64 x.region, .slice Ax x.items.length cx, .int .i64 x.state] := fun j v hj => (World.cell?_of_block (hg3.block bs hbs1 (fun e => HBA.out (.inr e.symm)))).trans (rga j v hj)
            have hv4 : ∀ i, v3.ownBlock = some i → vy.ownBlock = some i ∨ w.heap.size ≤ i := fun i hi => by
              rcases hat3 with e | e
              · exact HVZ.out i (e.symm.trans hi)
              · rw [e] at hi
                cases hi
                exact .inr (Kept.size hpla2)
            obtain ⟨m6, A6, c6, e6⟩ : ∃ m A c, v3 = .slice A m c := by
              obtain ⟨A, c, e, -⟩ := hv3.form
              exact ⟨_, A, c, e⟩
            subst e6
            have HP4 := Lib.hid hp4
            have HS4 := Lib.hid hs4
            have HPL5 := Lib.hid hpl5
            have HV4 := Lib.hid hv4
            clear hpa hsa hxa hpla hvl hvi hway hg3 hat3 hll hv3 hpl4 hp4 hs4 hpl5 hv4 rga hpla2 hW8
            refine ⟨rfl, .slice A6 m6 c6, _, (fun V => V = w3), rfl, rfl, (fun V h => by rw [h]; exact ⟨hob3, rg3⟩), (.inr (fun _ h => h)), ?_⟩
            simp only [Act.put, List.setIfInBounds_toArray, List.set_cons_succ, List.set_cons_zero]
            have HOB3 := Lib.hid hob3
            clear hob3 rg3
            refine Pt.WalkT.make (by rfl) ?_
            intro W hWJ
            cases hWJ.symm
            have hob3 := HOB3.out
            have g : w3.cell? ⟨B.b, 14, none⟩ = some vz := hob3.cell rfl
            have f := hob3.frozen 14
            go_wp2_with fail
            refine ⟨rfl, undef, (fun _ => True), (fun V => V = _), rfl, rfl, (fun _ _ => trivial), (.inl (by kernel_rfl)), Pt.WalkT.nil ?_⟩
            intro V' hV
            cases hV.symm
            simp only [Act.put]
            clear g f hob3 HOB3
            go_wp2
            go_roundw
            case rel => exact ⟨k + 1, _, by omega, by go_num, by rw [HSN.out, ← List.append_assoc]; exact HP4.out, HV4.out, HS4.out, HPL5.out⟩
            case measure => simp [intOf]; omega
        · obtain rfl : k = u.2.length := by omega
          have hd : decide (u.2.length < u.2.length) = false := by simp
          have HP := Lib.hid hp
          have HPL := Lib.hid hpl
          clear hp hS hpl
          go_wp2
          go_ret
          rw [List.take_length] at HP
          exact ⟨rfl, ⟨_, _, _, _, HP.out, HVZ.out⟩, HPL.out⟩
  · intro W hWJ
    cases hWJ.symm
    have halk := (Below.refl W1.heap.size W1).alloc (Nat.le_refl _) (.cells #[.int .i64 0, .int .i64 0, .int .i64 0, .slice none 0 0, .bool false, .int .i64 0, .int .i64 0, .slice none 0 0, .slice none 0 0, .bool false] 27)
    have hpq := hp.same halk
    have oEq := oE.same halk
    have hq0 := Ob.new W1 27 #[.int .i64 0, .int .i64 0, .int .i64 0, .slice none 0 0, .bool false, .int .i64 0, .int .i64 0, .slice none 0 0, .slice none 0 0, .bool false]
    have hBq := hB.trans (halk.mono hB.size)
    have hzq : (W1.alloc (.cells #[.int .i64 0, .int .i64 0, .int .i64 0, .slice none 0 0, .bool false, .int .i64 0, .int .i64 0, .slice none 0 0, .slice none 0 0, .bool false] 27)).heap.size = W1.heap.size + 1 := World.size_alloc _ _
    have HZQ := Lib.hid hzq
    go_wp2_with fail
    refine ⟨rfl, .pointer (some ⟨W1.heap.size, 0, none⟩), _, (fun V => V = _), ?_, rfl, (fun V h => by rw [h]; exact ⟨hpq.ob, oEq⟩), (.inr (fun _ h => h)), ?_⟩
    · simp only [Act.put, List.setIfInBounds_toArray, List.set_cons_succ, List.set_cons_zero]
    simp only [Act.put, List.setIfInBounds_toArray, List.set_cons_succ, List.set_cons_zero]
    clear hzq
    generalize W1.alloc (.cells #[.int .i64 0, .int .i64 0, .int .i64 0, .slice none 0 0, .bool false, .int .i64 0, .int .i64 0, .slice none 0 0, .slice none 0 0, .bool false] 27) = WQ at *
    refine Pt.WalkT.make (by rfl) ?_
    intro W hWJ
    cases hWJ.symm
    go_wp2_with (go_at_call 20; refine (cN.out WQ hBq).mono ?_; rintro e W2 ⟨hr2, hb2⟩; obtain ⟨y, A1, n1, c1, A2, n2, c2, A3, n3, c3, A4, n4, c4, xx, rfl, hgv⟩ := hr2.form; clear hr2)
    have hp2 := hpq.same hb2
    have oE2 := oEq.same hb2
    have hB2 := hBq.trans (hb2.mono hBq.size)
    have hs2 := hb2.size
    refine ⟨rfl, .tuple #[.agg (sagaC y (.slice A1 n1 c1) (.slice A2 n2 c2) (.slice A3 n3 c3)), .slice A4 n4 c4, .int .i64 xx], _, (fun V => V = W2), ?_, rfl, (fun V h => by rw [h]; exact ⟨hp2.ob, oE2⟩), (.inr (fun _ h => h)), ?_⟩
    · simp only [Act.put, List.setIfInBounds_toArray, List.set_cons_succ, List.set_cons_zero]
    simp only [Act.put, List.setIfInBounds_toArray, List.set_cons_succ, List.set_cons_zero]
    iterate 4 (
      apply Pt.WalkT.on (by rfl)
      · intro V hV
        go_wp2_with fail
        refine ⟨rfl, ?_, rfl⟩
        try simp only [Act.put, List.setIfInBounds_toArray, List.set_cons_succ, List.set_cons_zero]
        rfl
      simp only [Act.put, List.setIfInBounds_toArray, List.set_cons_succ, List.set_cons_zero])
    refine Pt.WalkT.make (by rfl) ?_
    intro W hWJ
    cases hWJ.symm
    go_wp2_with (refine wpList_store_ob (cells := (sagaC y (.slice A1 n1 c1) (.slice A2 n2 c2) (.slice A3 n3 c3))) rfl 27 (.tmp 5) (.tmp 16) rfl rfl rfl (hq0.same hb2) rfl (by kernel_rfl) (by simp [sagaC, Value.oneCell']) ?_; intro W4 ho4 hg4)
    have hobz := (hp2.ob).kept hg4 (fun e => by have e2 : B.b = W1.heap.size := Option.some.inj e; have := h0.out.ob.lt; omega)
    have oEz := (oE2).kept hg4 (fun e => by have e2 : w.heap.size = W1.heap.size := Option.some.inj e; omega)
    refine ⟨rfl, undef, _, (fun V => V = W4), ?_, rfl, (fun V h => by rw [h]; exact ⟨hobz, oEz⟩), (.inr (fun _ h => h)), ?_⟩
    · simp only [Act.put, List.setIfInBounds_toArray, List.set_cons_succ, List.set_cons_zero]
    simp only [Act.put, List.setIfInBounds_toArray, List.set_cons_succ, List.set_cons_zero]
    clear hobz oEz
    iterate 2 (
      apply Pt.WalkT.on (by rfl)
      · intro V hV
        go_wp2_with fail
        refine ⟨rfl, ?_, rfl⟩
        try simp only [Act.put, List.setIfInBounds_toArray, List.set_cons_succ, List.set_cons_zero]
        rfl
      simp only [Act.put, List.setIfInBounds_toArray, List.set_cons_succ, List.set_cons_zero])
    refine Pt.WalkT.nil ?_
    rintro V hVJ
    cases hVJ.symm
    have hs4 := hg4.size
    have hb4 : Below W1.heap.size W1 W4 := (halk.trans (hb2.mono (by have := HZQ.out; omega))).grown hg4 (by have := HZQ.out; omega) (fun g e => by have e2 : W1.heap.size = g := Option.some.inj e; omega)
    have hp4 := hp.same hb4
    have hpl : Plays B vy w W4 := Plays.of_below (hB.trans (hb4.mono hB.size))
    have hk : Kept (fun i => WQ.heap.size ≤ i ∧ i < W2.heap.size) W2 W4 := Kept.of_grown hg4 fun i hi => ⟨hi.2, fun e => by have := HZQ.out; have e2 : W1.heap.size = i := (Option.some.inj e).symm; omega⟩
    obtain ⟨lo, hlo⟩ : ∃ lo, WQ.heap.size = lo := ⟨_, rfl⟩
    rw [hlo] at hgv hk
    have hlw : w.heap.size ≤ lo := by rw [← hlo]; exact hBq.size
    clear hb4 hg4 hlo
    rcases hinv.out with ⟨x, rfl, hx, rfl⟩ | ⟨u, rfl, hum, rfl⟩
    · cases hgv.1
      rcases hx with rfl | rfl
      all_goals
        go_wp2
        go_ret
        exact ⟨rfl, ⟨_, _, _, _, hp4, fun i hi => .inl hi⟩, hpl⟩
    · obtain ⟨rfl, rfl, hP, hS⟩ := hgv
      have HUM := Lib.hid hum
      clear hum
      have hav : ∀ i, B.av vy i → i < lo := fun i hi => by have := h0.out.lt i hi; omega
      have hP4 : PartsA (B.av vy) W4 u.1 (.slice A1 n1 c1) (.slice A2 n2 c2) (.slice A3 n3 c3) := PartsA.of (hP.kept hk fun i ha hb => ⟨ha, hb⟩) hk.size fun i ha hb hx => by have := hav i hx; omega
      have hS4 : StepsA (B.av vy) W4 (.slice A4 n4 c4) u.2 := StepsA.of (hS.kept hk fun i ha hb => ⟨ha, hb⟩) hk.size fun i ha hb hx => by have := hav i hx; omega
      obtain ⟨A5, c5, e5⟩ := hS4.form
      cases e5
      clear hP hS hk hav
      have cM := Lib.hid (sagamay_calls u.1 _ _ _ W4 hP4.parts (fit_may HUM.out))
      rw [HUM.out] at cM
      have HS4 := Lib.hid hS4
      have HP4 := Lib.hid hP4
      clear hS4 hP4
      go_upto_region 6 with (first | (refine wpList_load_obg (by rfl) _ _ rfl rfl _ ho4 Try.underlying27 rfl (by kernel_rfl) ?_) | (go_at_call 26; refine cM.out.mono ?_; rintro e W5 ⟨rfl, hb5⟩))
      have ho4 := ho4.same hb5
      have hp5 := hp4.same hb5
      have hP5 := HP4.out.later hb5
      have hS5 := HS4.out.later hb5
      have hpl5 := Plays.trans hpl (Plays.of_below (B := B) (vy := vy) hb5) (fun i hi => .inl hi)
      clear hb5 hp4 hpl cM HS4 HP4
      obtain ⟨hp6, hpl6⟩ := hp5.saga hP5
      have hpl6 := Plays.trans hpl5 hpl6 (fun i hi => .inl hi)
      have hS6 : StepsA (B.av vy) (W5.setCells B.b 0 (sagaC u.1 (.slice A1 n1 c1) (.slice A2 n2 c2) (.slice A3 n3 c3)).toList) (.slice A4 u.2.length c4) u.2 := hS5.grow (grown_cells _ _ _) (.inl (.inl rfl))
      have hth := play_there hp5.ob
      have HL := Lib.hid hl
      have HL8 := Lib.hid (hl8 u rfl)
      clear hp5 hP5 hS5 hpl5 hl hl8
      go_wp2_with (first | (refine wpList_load_obg (by rfl) _ _ rfl rfl _ ho4 Try.underlying27 rfl (by kernel_rfl) ?_) | (refine wpList_store_mid rfl 27 (.tmp 33) (.tmp 31) rfl B.b 0 (sagaC u.1 (.slice A1 n1 c1) (.slice A2 n2 c2) (.slice A3 n3 c3)) rfl rfl hth (by kernel_rfl) (by simp [sagaC, Value.oneCell']) ?_))
      generalize W5.setCells B.b 0 (sagaC u.1 (.slice A1 n1 c1) (.slice A2 n2 c2) (.slice A3 n3 c3)).toList = W6 at *
      clear hth ho4
      go_loopw [8] (fun i wr => ∃ (k : Nat) (vz : Value), k ≤ u.2.length ∧ i = .int .i64 k ∧ PlayAt wr B n { p with s := u.1, way := p.way ++ sent (u.2.take k) } (.slice A1 n1 c1) (.slice A2 n2 c2) (.slice A3 n3 c3) vz ∧ (∀ i, vz.ownBlock = some i → vy.ownBlock = some i ∨ w.heap.size ≤ i) ∧ StepsA (B.av vz) wr (.slice A4 u.2.length c4) u.2 ∧ Plays B vy w wr) (fun i _ => u.2.length - (intOf i).toNat)
      case atStart => exact ⟨0, vy, by omega, rfl, by rw [List.take_zero, show sent [] = [] from rfl, List.append_nil]; exact hp6, fun i hi => .inl hi, hS6, hpl6⟩
      case round =>
        clear hp6 hS6 hpl6
        obtain ⟨k, vz, hk, rfl, hp, hvz, hS, hpl⟩ := hrel
        have HVZ := Lib.hid hvz
        clear hvz
        by_cases hlt : k < u.2.length
        · have hd : decide (k < u.2.length) = true := by simpa using hlt
          have hk8 : k < 8 := Nat.lt_of_lt_of_le hlt HL8.out
          obtain ⟨bs, os, xv, rfl, hbs, hba, k0, k1, k2, k3, hx⟩ := hS.cellA hlt
          obtain ⟨Ax, cx, rfl, -⟩ := hx.form
          have HBA := Lib.hid hba
          clear hba
          have HSN := Lib.hid (sent_snoc hlt)
          generalize u.2.getD k step0 = x at *
          by_cases hkd : x.kind = 100
          · have hd2 : (x.kind != 100) = false := by simp [hkd]
            rw [if_neg (by simp [hkd]), List.append_nil] at HSN
            have HP := Lib.hid hp
            have HS := Lib.hid hS
            have HPL := Lib.hid hpl
            clear hp hS hpl hx
            go_wp2
            go_roundw
            case rel => exact ⟨k + 1, vz, by omega, by go_num, by rw [HSN.out]; exact HP.out, HVZ.out, HS.out, HPL.out⟩
            case measure => simp [intOf]; omega
          · have hd2 : (x.kind != 100) = true := by simp [hkd]
            rw [if_pos hkd] at HSN
            have hd0 := (Below.refl wr.heap.size wr).drew
            have HPR := Lib.hid (hp.same hd0)
            have HSR := Lib.hid (hS.later hd0)
            have hx := hx.later hd0
            have HPL := Lib.hid (Plays.trans hpl (Plays.of_below (B := B) (vy := vz) hd0) HVZ.out)
            have hbs : bs < wr.drew.heap.size := hbs
            have hob : Ob wr.drew B.b 39 (playC u.1 (.slice A1 n1 c1) (.slice A2 n2 c2) (.slice A3 n3 c3) B.f B.h B.k B.g n B.cf vz) := (hp.same hd0).ob
            have r0 : wr.drew.cell? ⟨bs, os + k * 4, none⟩ = some (.int .i64 x.kind) := k0
            have r1 : wr.drew.cell? ⟨bs, os + k * 4 + 1, none⟩ = some (.int .i64 x.region) := k1
            have r2 : wr.drew.cell? ⟨bs, os + k * 4 + 2, none⟩ = some (.slice Ax x.items.length cx) := k2
            have r3 : wr.drew.cell? ⟨bs, os + k * 4 + 3, none⟩ = some (.int .i64 x.state) := k3
            have rg := range4 r0 r1 r2 r3
            clear hp hS hpl k1 k2 k3 r0 r1 r2 r3
            go_upto_region 11 with (fail)
            clear k0 hd0 hd hd2
            refine Pt.regionT (.look 0 (.look 1 (.look 2 (.look 3 (.look 4 (.look 5 (.look 6 (.look 7 (.look 8 (.look 11 (.look 12 (.make 9 (.make 10 (.make 13 .nil)))))))))))))) (fun V => Ob V B.b 39 (playC u.1 (.slice A1 n1 c1) (.slice A2 n2 c2) (.slice A3 n3 c3) B.f B.h B.k B.g n B.cf vz) ∧ V.rangeAt bs (os + k * 4) [.int .i64 x.kind, .int .i64 x.region, .slice Ax x.items.length cx, .int .i64 x.state]) hmx (by kernel_rfl) (by kernel_rfl) (by kernel_rfl) ⟨hob, rg⟩ rfl ?_
            simp only [Pt.named, List.getElem?_toArray, List.getElem?_cons_succ, List.getElem?_cons_zero, Option.map_some]
            iterate 11 (
              apply Pt.WalkT.on (by rfl)
              · rintro V ⟨y1, y2⟩
                have g14 : V.cell? ⟨B.b, 14, none⟩ = some vz := y1.cell rfl
                go_wp2_with (refine wpList_load_midg (by rfl) 52 (.tmp 53) rfl rfl _ _ y2 Try.underlying52 rfl (by kernel_rfl) ?_)
                refine ⟨rfl, ?_, rfl⟩
                try simp only [Act.put, List.setIfInBounds_toArray, List.set_cons_succ, List.set_cons_zero]
                rfl
              simp only [Act.put, List.setIfInBounds_toArray, List.set_cons_succ, List.set_cons_zero])
            generalize wr.drew = U0 at *
            refine Pt.WalkT.make (by rfl) ?_
            intro W hWJ
            cases hWJ.symm
            have hal := (Below.refl U0.heap.size U0).alloc (Nat.le_refl _) (.cells #[.int .i64 x.kind, .int .i64 x.region, .slice Ax x.items.length cx, .int .i64 x.state] 52)
            have hll : Sl (U0.alloc (.cells #[.int .i64 x.kind, .int .i64 x.region, .slice Ax x.items.length cx, .int .i64 x.state] 52)) U0.heap.size (U0.heap.size + 1) 4 (.slice (some ⟨U0.heap.size, 0, none⟩) 1 1) 1 [.int .i64 x.kind, .int .i64 x.region, .slice Ax x.items.length cx, .int .i64 x.state] := Sl.new U0 #[.int .i64 x.kind, .int .i64 x.region, .slice Ax x.items.length cx, .int .i64 x.state] 52 (n := 1) (size := 4) rfl (by unfold maxLen; omega)
            have hpa := HPR.out.same hal
            have hsa := HSR.out.later hal
            have hxa := hx.later hal
            have hpla := Plays.trans HPL.out (Plays.of_below (B := B) (vy := vz) hal) HVZ.out
            have rga : (U0.alloc (.cells #[.int .i64 x.kind, .int .i64 x.region, .slice Ax x.items.length cx, .int .i64 x.state] 52)).rangeAt bs (os + k * 4) [.int .i64 x.kind, .int .i64 x.region, .slice Ax x.items.length cx, .int .i64 x.state] := fun j v hj => (hal.cell (p := ⟨bs, os + k * 4 + j, none⟩) hbs).trans (rg j v hj)
            go_wp2_with fail
            refine ⟨rfl, .slice (some ⟨U0.heap.size, 0, none⟩) 1 1, _, (fun V => V = U0.alloc (.cells #[.int .i64 x.kind, .int .i64 x.region, .slice Ax x.items.length cx, .int .i64 x.state] 52)), ?_, rfl, (fun V h => by rw [h]; exact ⟨hpa.ob, rga⟩), (.inr (fun _ h => h)), ?_⟩
            · simp only [Act.put, List.setIfInBounds_toArray, List.set_cons_succ, List.set_cons_zero]
            simp only [Act.put, List.setIfInBounds_toArray, List.set_cons_succ, List.set_cons_zero]
            have hbs1 := Nat.lt_of_lt_of_le hbs hal.size
            generalize U0.alloc (.cells #[.int .i64 x.kind, .int .i64 x.region, .slice Ax x.items.length cx, .int .i64 x.state] 52) = U1 at *
            clear HPR HSR hx HPL hob rg hal
            refine Pt.WalkT.make (by rfl) ?_
            intro W hWJ
            cases hWJ.symm
            have hW8 : (p.way ++ sent (u.2.take k)).length ≤ 1008 := by have := hlen.out (u.2.take k); have := List.length_take_le k u.2; omega
            obtain ⟨hi0, hz0, hz1, hz2⟩ := HI0.out
            obtain ⟨vs, hvl, hway, hvi⟩ := hpa.way
            have hpla2 : Plays B vy w U1 := hpla
            refine wpList_append_way rfl (.tmp 50) (.tmp 55) _ rfl 52 i0 _ 4 48 Try.underlying28 hi0 hz0 hz1 hz2 rfl vz _ _ rfl hway _ _ _ 1 _ (Nat.lt_succ_self 0) rfl hll (stepL_one (x := x) (v := .slice Ax x.items.length cx) rfl) (by show (p.way ++ sent (u.2.take k)).length + 1 ≤ maxLen; unfold maxLen; omega) (by show ((p.way ++ sent (u.2.take k)).length + 1) * 48 ≤ _; omega) ?_
            clear hi0 hz0 hz1 hz2
            intro v3 w3 hv3 hg3 hat3
            obtain ⟨hp4, hpl4⟩ := hpa.push (x := x) hvl hvi hxa hv3 hg3 hat3
            have hs4 : StepsA (B.av v3) (w3.setCell ⟨B.b, 14, none⟩ v3) (.slice (some ⟨bs, os, none⟩) u.2.length c4) u.2 := (StepsA.turn (Av := B.is) hsa hg3 hat3).grow (grownBy_set _ _ _ _) (.inl (.inl rfl))
            have hpl5 := Plays.trans hpla hpl4 HVZ.out
            have hob3 : Ob w3 B.b 39 (playC u.1 (.slice A1 n1 c1) (.slice A2 n2 c2) (.slice A3 n3 c3) B.f B.h B.k B.g n B.cf vz) := hpa.ob.kept hg3 (fun e => hpa.yne _ e.symm (.inl rfl))
            have rg3 : w3.rangeAt bs (os + k * 4) [.int .i64 x.kind, .int .i64 x.region, .slice Ax x.items.length cx, .int .i64 x.state] := fun j v hj => (World.cell?_of_block (hg3.block bs hbs1 (fun e => HBA.out (.inr e.symm)))).trans (rga j v hj)
            have hv4 : ∀ i, v3.ownBlock = some i → vy.ownBlock = some i ∨ w.heap.size ≤ i := fun i hi => by
              rcases hat3 with e | e
              · exact HVZ.out i (e.symm.trans hi)
              · rw [e] at hi
                cases hi
                exact .inr (Kept.size hpla2)
            obtain ⟨m6, A6, c6, e6⟩ : ∃ m A c, v3 = .slice A m c := by
              obtain ⟨A, c, e, -⟩ := hv3.form
              exact ⟨_, A, c, e⟩
            subst e6
            have HP4 := Lib.hid hp4
            have HS4 := Lib.hid hs4
            have HPL5 := Lib.hid hpl5
            have HV4 := Lib.hid hv4
            clear hpa hsa hxa hpla hvl hvi hway hg3 hat3 hll hv3 hpl4 hp4 hs4 hpl5 hv4 rga hpla2 hW8
            refine ⟨rfl, .slice A6 m6 c6, _, (fun V => V = w3), rfl, rfl, (fun V h => by rw [h]; exact ⟨hob3, rg3⟩), (.inr (fun _ h => h)), ?_⟩
            simp only [Act.put, List.setIfInBounds_toArray, List.set_cons_succ, List.set_cons_zero]
            have HOB3 := Lib.hid hob3
            clear hob3 rg3
            refine Pt.WalkT.make (by rfl) ?_
            intro W hWJ
            cases hWJ.symm
            have hob3 := HOB3.out
            have g : w3.cell? ⟨B.b, 14, none⟩ = some vz := hob3.cell rfl
            have f := hob3.frozen 14
            go_wp2_with fail
            refine ⟨rfl, undef, (fun _ => True), (fun V => V = _), rfl, rfl, (fun _ _ => trivial), (.inl (by kernel_rfl)), Pt.WalkT.nil ?_⟩
            intro V' hV
            cases hV.symm
            simp only [Act.put]
            clear g f hob3 HOB3
            go_wp2
            go_roundw
            case rel => exact ⟨k + 1, _, by omega, by go_num, by rw [HSN.out, ← List.append_assoc]; exact HP4.out, HV4.out, HS4.out, HPL5.out⟩
            case measure => simp [intOf]; omega
        · obtain rfl : k = u.2.length := by omega
          have hd : decide (u.2.length < u.2.length) = false := by simp
          have HP := Lib.hid hp
          have HPL := Lib.hid hpl
          clear hp hS hpl
          go_wp2
          go_ret
          rw [List.take_length] at HP
          exact ⟨rfl, ⟨_, _, _, _, HP.out, HVZ.out⟩, HPL.out⟩
end Sa
end Go.Proofs.Ythfpfomifebpbaa
