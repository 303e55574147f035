/-
  moves: the document's Unpack.
  moves: the law's walks, wherever the document's lists lie.
  moves: the law Unpacks.
  arguments opened: a slice of bytes.
  moves: the row Unpacks.
-/
import Derived.Test.YtdbkkldgobkjcaaGreatMz9
import Derived.Test.YtdbkkldgobkjcaaGreatMz7
import Derived.Test.YtdbkkldgobkjcaaGreatMz10
import Derived.Test.YtdbkkldgobkjcaaGreatMz12
import Derived.Test.YtdbkkldgobkjcaaGreatMz8
import Derived.Test.YtdbkkldgobkjcaaGreatMz5
import Derived.Test.YtdbkkldgobkjcaaGreatMz4

set_option linter.unusedVariables false
set_option linter.unusedSimpArgs false
namespace Go.Proofs.YtdbkkldgobkjcaaGreat
open Go.RowKit Go.Maps
namespace Mv
open It Ce

/-- the document's moves, wherever their lists lie -/
structure DocS (w : World) (xb : Nat) (es : List (Way × Value)) : Prop where
  ob : ∃ v, Ob w xb 58 #[v] ∧ Sl w 0 w.heap.size 5 v es.length (docCells es)
  nest : ∀ p ∈ es, ItemsAt w 0 w.heap.size p.2 p.1.l
/-- what the document makes of some bytes -/
def UnpRef (R : Option (List Way)) (w' : World) (e : Ending) : Prop := match R with
  | some ds => ∃ xb es, e = .returned (.tuple #[.pointer (some ⟨xb, 0, none⟩), .bool true]) ∧ es.map (·.1) = ds ∧ DocS w' xb es
  | none => e = .returned (.tuple #[.pointer none, .bool false])
theorem items_but {w w' : World} {lo hi : Nat} {v : Value} {l : List It.Item} {row : Option Nat} (h : ItemsAt w lo hi v l) (hg : w.grownBy w' row) (hh : hi ≤ w.heap.size) (hn : ∀ g, row = some g → ¬ (lo ≤ g ∧ g < hi)) : ItemsAt w' lo hi v l :=
  h.keep fun b _ h1 h2 => World.cell?_of_block (hg.block b (by omega) (fun e => hn b e.symm ⟨h1, h2⟩))
theorem Kept.own {w w' : World} {Fr : Nat → Prop} {lo size n : Nat} {e : TypeId} {v : Value} {xs : List Value} (hk : Kept Fr w w') (h : w.ownsRow lo e size v n xs) (hF : ∀ g, v.ownBlock = some g → g < w.heap.size → Fr g) : w'.ownsRow lo e size v n xs := by
  refine ⟨h.1, ?_⟩
  rcases h.2 with h4 | ⟨g, cap, cur, rfl, hb, hg, hr⟩
  · exact .inl h4
  · exact .inr ⟨g, cap, cur, rfl, hb, (hk.block g (hF g rfl (Array.getElem?_eq_some_iff.1 hg).1)).trans hg, hr⟩
theorem way_infoF : (Tryz.prog.info? 108).map (fun i => (i.zero, i.size, i.bytes)) = some (some (.agg #[.int .i64 0, .int .i64 0, .int .i64 0, .slice none 0 0, .bool false]), 5, 56) := by kernel_rfl
theorem docCells_oneF {es : List (Way × Value)} (h : ∀ p ∈ es, ∃ A n c, p.2 = .slice A n c) : ∀ y ∈ docCells es, y.oneCell' = true := by
  intro y hy
  obtain ⟨p, hp, hy⟩ := List.mem_flatMap.1 hy
  obtain ⟨A, n, c, e⟩ := h p hp
  simp only [wayC, List.mem_cons, List.not_mem_nil, or_false] at hy
  rcases hy with rfl | rfl | rfl | rfl | rfl
  case inr.inr.inr.inl => rw [e]; rfl
  all_goals rfl
/-- the lists of the moves read so far: none in the row's own block -/
def Nest (w : World) (xb : Nat) (u : Value) (es : List (Way × Value)) : Prop :=
  ∀ p ∈ es, ∃ lo hi, ItemsAt w lo hi p.2 p.1.l ∧ hi ≤ w.heap.size ∧ xb < lo ∧ ∀ g, u.ownBlock = some g → ¬ (lo ≤ g ∧ g < hi)
theorem Nest.kept {w w' : World} {xb b : Nat} {u : Value} {es : List (Way × Value)} (h : Nest w xb u es) (hg : w.grownBy w' (some b)) (hb : b ≤ xb ∨ w.heap.size ≤ b) : Nest w' xb u es := fun p hp => by
  obtain ⟨lo, hi, h1, h2, h3, h4⟩ := h p hp
  exact ⟨lo, hi, items_but h1 hg h2 (fun g e => by cases e; omega), Nat.le_trans h2 hg.size, h3, h4⟩
theorem Nest.alloc {w : World} {xb : Nat} {u : Value} {es : List (Way × Value)} (h : Nest w xb u es) (o : Obj) : Nest (w.alloc o) xb u es := fun p hp => by
  obtain ⟨lo, hi, h1, h2, h3, h4⟩ := h p hp
  exact ⟨lo, hi, items_but h1 (World.grownBy_alloc w o none) h2 (by simp), by simp; omega, h3, h4⟩
theorem Nest.more {w w' : World} {xb lo hi : Nat} {u u' sv : Value} {d : Way} {es : List (Way × Value)} (h : Nest w xb u es) (hg : w.grownBy w' u.ownBlock) (hu : u'.ownBlock = u.ownBlock ∨ u'.ownBlock = some w.heap.size)
    (hi1 : ItemsAt w lo hi sv d.l) (hi2 : hi ≤ w.heap.size) (hi3 : xb < lo) (hi4 : ∀ g, u.ownBlock = some g → ¬ (lo ≤ g ∧ g < hi)) : Nest w' xb u' (es ++ [(d, sv)]) := by
  have key : ∀ {lo hi : Nat} {sv : Value} {l : List It.Item}, ItemsAt w lo hi sv l → hi ≤ w.heap.size → (∀ g, u.ownBlock = some g → ¬ (lo ≤ g ∧ g < hi)) → ItemsAt w' lo hi sv l ∧ hi ≤ w'.heap.size ∧ ∀ g, u'.ownBlock = some g → ¬ (lo ≤ g ∧ g < hi) := fun a b c =>
    ⟨items_but a hg b c, Nat.le_trans b hg.size, fun g e => by
      rcases hu with h | h
      · exact c g (by rw [← h]; exact e)
      · rw [h] at e; cases e; omega⟩
  intro p hp
  rcases List.mem_append.1 hp with hp | hp
  · obtain ⟨lo, hi, h1, h2, h3, h4⟩ := h p hp
    obtain ⟨k1, k2, k3⟩ := key h1 h2 h4
    exact ⟨lo, hi, k1, k2, h3, k3⟩
  · rw [List.mem_singleton.1 hp]
    obtain ⟨k1, k2, k3⟩ := key hi1 hi2 hi4
    exact ⟨lo, hi, k1, k2, hi3, k3⟩
theorem parse_bad {j : Nat} {l : Int} {acc : List Way} {D : Way × Tst} {R : Option (List Way)} (h : R = if badW l D.1 then none else parseW j D.1.mv (acc ++ [D.1]) D.2) (hok : badW l D.1 = false → OkW D.1) (hb : D.2 = none) : R = none := by
  rw [h]
  split
  · rfl
  · rename_i hx
    rw [hb]
    exact parseW_none _ _ _ (by have := (hok (by simpa using hx)).mv; omega)

set_option maxRecDepth 100000 in
set_option maxHeartbeats 8000000 in
theorem refunpack_calls (bl : List UInt8) (v : Value) (w : World) (hI : BytesAt w 0 w.heap.size v bl) :
    Calls Tryz.prog 36 #[v] w fun e w' => UnpRef (unpackW bl) w' e ∧ Below w.heap.size w w' := by
  obtain ⟨i0, hi0, hz0⟩ := Option.map_eq_some_iff.1 way_infoF
  simp only [Prod.mk.injEq] at hz0
  obtain ⟨hq0, hq1, hq2⟩ := hz0
  obtain ⟨A, c, rfl, -⟩ := hI.form
  have hal1 := (Below.refl w.heap.size w).alloc (Nat.le_refl _) (.cells #[.slice A bl.length c, .bool false] 133)
  have hal2 := hal1.alloc hal1.size (.cells #[.slice none 0 0] 58)
  have hT : Tk 133 ((w.alloc (.cells #[.slice A bl.length c, .bool false] 133)).alloc (.cells #[.slice none 0 0] 58)) w.heap.size w.heap.size (some bl) :=
    ⟨hal2.size, .slice A bl.length c, bl, 0, false, (Ob.new w _ _).alloc _, Sl.below hI hal2, .inl (Nat.le_refl _), rfl⟩
  have hX0 : Ob ((w.alloc (.cells #[.slice A bl.length c, .bool false] 133)).alloc (.cells #[.slice none 0 0] 58)) (w.heap.size + 1) 58 #[.slice none 0 0] := by
    have := Ob.new (w.alloc (.cells #[.slice A bl.length c, .bool false] 133)) 58 #[.slice none 0 0]
    rwa [World.size_alloc] at this
  have hs2 : ((w.alloc (.cells #[.slice A bl.length c, .bool false] 133)).alloc (.cells #[.slice none 0 0] 58)).heap.size = w.heap.size + 2 := by simp
  have cN := Lib.hid (rnum_calls 0 256 w.heap.size w.heap.size (some bl) _ hT)
  have hr := tNum_range (least := 0) (most := 256) (s := some bl) (by omega) (by omega)
  have HR := Lib.hid (show unpackW bl = parseW (tNum 0 256 (some bl)).1.toNat 0 [] (tNum 0 256 (some bl)).2 from rfl)
  clear hI hT hal1
  generalize unpackW bl = R at *
  generalize hnn : tNum 0 256 (some bl) = nn at *
  clear hnn
  obtain ⟨ni, st0⟩ := nn
  dsimp only at hr cN HR
  obtain ⟨n, rfl⟩ := Int.eq_ofNat_of_zero_le hr.1
  have hn256 : n ≤ 256 := by omega
  rw [Int.toNat_natCast] at HR
  clear hr
  go_enter Tryz.func36, Tryz.ntmps36
  go_wp2_with fail
  refine cN.out.mono ?_
  generalize (w.alloc (.cells #[.slice A bl.length c, .bool false] 133)).alloc (.cells #[.slice none 0 0] 58) = w2 at *
  rintro e W0 ⟨rfl, hT0, hg0, -⟩
  have hX1 := hX0.kept hg0 (fun e => by have := Option.some.inj e; omega)
  have hB1 : Below w.heap.size w W0 := hal2.grown hg0 hal2.size (fun g e => by cases e; exact Nat.le_refl _)
  have hs0 := hg0.size
  clear hX0 hal2 hg0 cN
  go_wp2
  go_loopw [7, 8, 9, 10, 11] (fun la i _ _ _ wr => ∃ (k : Nat) (l : Int) (es : List (Way × Value)) (st : Tst) (u : Value), k ≤ n ∧ i = .int .i64 k ∧ la = .int .i64 l ∧ 0 ≤ l ∧ l ≤ 1099511627776 ∧ es.length = k ∧ parseW (n - k) l (es.map (·.1)) st = R ∧ Tk 133 wr w.heap.size w.heap.size st ∧
    Ob wr (w.heap.size + 1) 58 #[u] ∧ wr.ownsRow (w.heap.size + 2) 108 5 u es.length (docCells es) ∧ Nest wr (w.heap.size + 1) u es ∧ Below w.heap.size w wr ∧ w.heap.size + 2 ≤ wr.heap.size) (fun _ i _ _ _ _ => n - (intOf i).toNat)
  case atStart => exact ⟨0, 0, [], st0, .slice none 0 0, by omega, rfl, rfl, by omega, by omega, rfl, HR.out.symm, hT0, hX1, World.ownsRow_nil _ _ _ _, (fun p hp => by cases hp), hB1, by omega⟩
  case round =>
    obtain ⟨k, l, es, st, u, hk, rfl, rfl, hl0, hl1, hes, hP, hT, hX, hown, hN, hB, hsz⟩ := hrel
    clear hT0 hX1 hB1
    have hel : es.length ≤ 256 := by omega
    have HES := Lib.hid hes
    clear hes
    cases st with
    | none =>
      obtain ⟨tv, hO⟩ := hT.none_form
      have t1 := hO.cell (j := 1) (v := .bool true) rfl
      obtain rfl : R = none := by rw [← hP]; exact parseW_none _ _ _ hl0
      clear hP hT hX hown hN HR
      rcases Nat.lt_or_ge k n with hlt | hlt
      · have hd : decide ((k : Int) < (n : Int)) = true := by simp; omega
        go_wp2
        go_ret2
        exact ⟨rfl, hB⟩
      · have hd : decide ((k : Int) < (n : Int)) = false := by simp; omega
        go_wp2
        go_ret2
        exact ⟨rfl, hB⟩
    | some rr =>
      obtain ⟨tv, tlo, hO, hBy, -⟩ := hT.some_form
      obtain ⟨At, ct, rfl, -⟩ := hBy.form
      have t0 := hO.cell (j := 0) (v := .slice At rr.length ct) rfl
      have t1 := hO.cell (j := 1) (v := .bool false) rfl
      rcases Nat.lt_or_ge k n with hlt | hlt
      · have hd : decide ((k : Int) < (n : Int)) = true := by simp; omega
        obtain ⟨j, hj⟩ : ∃ j, n - k = j + 1 := ⟨n - k - 1, by omega⟩
        rw [hj] at hP
        have HJ := Lib.hid (show n - (k + 1) = j by omega)
        obtain ⟨st, hst⟩ : ∃ st : Tst, st = some rr := ⟨_, rfl⟩
        rw [← hst] at hP hT
        clear hst hO hBy t0
        have hP2 : R = if badW l (rdWay st).1 then none else parseW j (rdWay st).1.mv (es.map (·.1) ++ [(rdWay st).1]) (rdWay st).2 := hP.symm
        have HP := Lib.hid hP2
        have HOK := Lib.hid (fun h => rdWay_ok (st := st) (last := l) hl0 h)
        have HBad := Lib.hid (fun h => parse_bad hP2 (fun h => rdWay_ok (st := st) (last := l) hl0 h) h)
        have C1 := Lib.hid (rnum_calls 1 1099511627776 w.heap.size w.heap.size st wr hT)
        have C2 := Lib.hid (fun V h => rnum_calls 0 7 w.heap.size w.heap.size (tNum 1 1099511627776 st).2 V h)
        have C3 := Lib.hid (fun V h => rnum_calls 0 7 w.heap.size w.heap.size (tNum 0 7 (tNum 1 1099511627776 st).2).2 V h)
        have C4 := Lib.hid (fun V h => refread_calls w.heap.size w.heap.size (tNum 0 7 (tNum 0 7 (tNum 1 1099511627776 st).2).2).2 V h)
        have C5 := Lib.hid (fun V h => rflag_calls w.heap.size w.heap.size (readI (tNum 0 7 (tNum 0 7 (tNum 1 1099511627776 st).2).2).2).2 V h)
        have HD := Lib.hid (show rdWay st = (⟨(tNum 1 1099511627776 st).1, (tNum 0 7 (tNum 1 1099511627776 st).2).1, (tNum 0 7 (tNum 0 7 (tNum 1 1099511627776 st).2).2).1, (readI (tNum 0 7 (tNum 0 7 (tNum 1 1099511627776 st).2).2).2).1, (tFlag (readI (tNum 0 7 (tNum 0 7 (tNum 1 1099511627776 st).2).2).2).2).1⟩,
          (tFlag (readI (tNum 0 7 (tNum 0 7 (tNum 1 1099511627776 st).2).2).2).2).2) from rfl)
        have HF5 := Lib.hid (show (readI (tNum 0 7 (tNum 0 7 (tNum 1 1099511627776 st).2).2).2).2 = none → (tFlag (readI (tNum 0 7 (tNum 0 7 (tNum 1 1099511627776 st).2).2).2).2).2 = none from fun h => by rw [h]; rfl)
        generalize rdWay st = D at *
        generalize tFlag (readI (tNum 0 7 (tNum 0 7 (tNum 1 1099511627776 st).2).2).2).2 = N5 at *
        generalize readI (tNum 0 7 (tNum 0 7 (tNum 1 1099511627776 st).2).2).2 = N4 at *
        generalize tNum 0 7 (tNum 0 7 (tNum 1 1099511627776 st).2).2 = N3 at *
        generalize tNum 0 7 (tNum 1 1099511627776 st).2 = N2 at *
        generalize tNum 1 1099511627776 st = N1 at *
        obtain ⟨n1, st1⟩ := N1
        obtain ⟨n2, st2⟩ := N2
        obtain ⟨n3, st3⟩ := N3
        obtain ⟨n4, st4⟩ := N4
        obtain ⟨n5, st5⟩ := N5
        dsimp only at C1 C2 C3 C4 C5 HD HF5
        rw [HD.out] at HP HOK HBad
        dsimp only at HP HOK HBad
        have HB := Lib.hid hB
        have HX := Lib.hid hX
        have HOwn := Lib.hid hown
        have HN := Lib.hid hN
        have hwl := fun g hg => (hown.lt g hg).2
        have HWL := Lib.hid hwl
        obtain ⟨FR, hFR⟩ : ∃ FR : Nat → Prop, FR = fun i => i < wr.heap.size ∧ i ≠ w.heap.size := ⟨_, rfl⟩
        have HFR := Lib.hid (fun i (hi : FR i) => show i < wr.heap.size ∧ i ≠ w.heap.size by rw [hFR] at hi; exact hi)
        have HFRi := Lib.hid (fun i (h1 : i < wr.heap.size) (h2 : i ≠ w.heap.size) => show FR i by rw [hFR]; exact ⟨h1, h2⟩)
        have HFRg := Lib.hid (fun i (hi : FR i) => show i < wr.heap.size ∧ some i ≠ some w.heap.size from ⟨(HFR.out i hi).1, fun e => (HFR.out i hi).2 (Option.some.inj e)⟩)
        clear hP hP2 hT hB HD HR hX hown hN hFR hwl
        go_wp2_with fail
        refine C1.out.mono ?_
        rintro e V1 ⟨rfl, hT1, hg1, -⟩
        have K1 : Kept FR wr (V1.alloc (.cells #[.int .i64 n1, .int .i64 0, .int .i64 0, .slice none 0 0, .bool false] 108)) := (Kept.of_grown hg1 HFRg.out).trans (Kept.of_grown (World.grownBy_alloc V1 _ none) (fun i hi => ⟨by have := (HFR.out i hi).1; have := hg1.size; omega, by simp⟩))
        have hT1s := hT1.same ((Below.refl V1.heap.size V1).alloc (Nat.le_refl _) (.cells #[.int .i64 n1, .int .i64 0, .int .i64 0, .slice none 0 0, .bool false] 108))
        have hO1s := Ob.new V1 108 #[.int .i64 n1, .int .i64 0, .int .i64 0, .slice none 0 0, .bool false]
        have hB1s := (HB.out.grown hg1 HB.out.size (fun g e => by cases e; exact Nat.le_refl _)).alloc (by have := hg1.size; have := HB.out.size; omega) (.cells #[.int .i64 n1, .int .i64 0, .int .i64 0, .slice none 0 0, .bool false] 108)
        have hz1 : V1.heap.size + 1 = (V1.alloc (.cells #[.int .i64 n1, .int .i64 0, .int .i64 0, .slice none 0 0, .bool false] 108)).heap.size := by simp
        have hwr1 : wr.heap.size ≤ V1.heap.size := hg1.size
        clear hT1 hg1 t1
        go_wp2_with fail
        refine (C2.out _ hT1s).mono ?_
        generalize V1.alloc (.cells #[.int .i64 n1, .int .i64 0, .int .i64 0, .slice none 0 0, .bool false] 108) = V1s at *
        rintro e V2 ⟨rfl, hT2, hg2, -⟩
        have hsz2 := hg2.size
        have hO2 := hO1s.kept hg2 (fun e => by have := Option.some.inj e; omega)
        obtain ⟨y0, y1, y2, y3, y4⟩ := hO2.five
        have f2 := hO2.frozen 1
        have hT2s := hT2.kept (grownBy_set V2 V1.heap.size 1 (.int .i64 n2)) (fun e => by have := Option.some.inj e; omega) (fun g e => by cases e; omega)
        have hO2s : Ob (V2.setCell ⟨V1.heap.size, 1, none⟩ (.int .i64 n2)) V1.heap.size 108 #[.int .i64 n1, .int .i64 n2, .int .i64 0, .slice none 0 0, .bool false] := hO2.set 1 (.int .i64 n2)
        have K2 : Kept FR wr (V2.setCell ⟨V1.heap.size, 1, none⟩ (.int .i64 n2)) := (K1.trans (Kept.of_grown hg2 (fun i hi => ⟨by have := (HFR.out i hi).1; have := K1.size; omega, fun e => (HFR.out i hi).2 (by cases e; rfl)⟩))).trans (Kept.of_grown (grownBy_set V2 V1.heap.size 1 (.int .i64 n2)) (fun i hi => ⟨by have := (HFR.out i hi).1; have := K1.size; omega, fun e => by have := (HFR.out i hi).1; cases e; omega⟩))
        have hB2s := (hB1s.grown hg2 hB1s.size (fun g e => by cases e; exact Nat.le_refl _)).grown (grownBy_set V2 V1.heap.size 1 (.int .i64 n2)) (by have := hB1s.size; omega) (fun g e => by cases e; omega)
        have hz2 : V1s.heap.size ≤ (V2.setCell ⟨V1.heap.size, 1, none⟩ (.int .i64 n2)).heap.size := by simp; exact hsz2
        clear hT1s hO1s K1 hB1s hT2 hO2 hg2
        go_wp2_with fail
        refine (C3.out _ hT2s).mono ?_
        generalize (V2.setCell ⟨V1.heap.size, 1, none⟩ (.int .i64 n2)) = V2s at *
        rintro e V3 ⟨rfl, hT3, hg3, -⟩
        have hsz3 := hg3.size
        have hO3 := hO2s.kept hg3 (fun e => by have := Option.some.inj e; omega)
        clear y0 y1 y2 y3 y4
        obtain ⟨y0, y1, y2, y3, y4⟩ := hO3.five
        have f3 := hO3.frozen 2
        have hT3s := hT3.kept (grownBy_set V3 V1.heap.size 2 (.int .i64 n3)) (fun e => by have := Option.some.inj e; omega) (fun g e => by cases e; omega)
        have hO3s : Ob (V3.setCell ⟨V1.heap.size, 2, none⟩ (.int .i64 n3)) V1.heap.size 108 #[.int .i64 n1, .int .i64 n2, .int .i64 n3, .slice none 0 0, .bool false] := hO3.set 2 (.int .i64 n3)
        have K3 : Kept FR wr (V3.setCell ⟨V1.heap.size, 2, none⟩ (.int .i64 n3)) := (K2.trans (Kept.of_grown hg3 (fun i hi => ⟨by have := (HFR.out i hi).1; have := K2.size; omega, fun e => (HFR.out i hi).2 (by cases e; rfl)⟩))).trans (Kept.of_grown (grownBy_set V3 V1.heap.size 2 (.int .i64 n3)) (fun i hi => ⟨by have := (HFR.out i hi).1; have := K2.size; omega, fun e => by have := (HFR.out i hi).1; cases e; omega⟩))
        have hB3s := (hB2s.grown hg3 hB2s.size (fun g e => by cases e; exact Nat.le_refl _)).grown (grownBy_set V3 V1.heap.size 2 (.int .i64 n3)) (by have := hB2s.size; omega) (fun g e => by cases e; omega)
        have hz3 : V2s.heap.size ≤ (V3.setCell ⟨V1.heap.size, 2, none⟩ (.int .i64 n3)).heap.size := by simp; exact hsz3
        clear hT2s hO2s K2 hB2s hT3 hO3 hg3
        go_wp2_with fail
        refine (C4.out _ hT3s).mono ?_
        generalize (V3.setCell ⟨V1.heap.size, 2, none⟩ (.int .i64 n3)) = V3s at *
        rintro e V4 ⟨⟨sv, il, rfl, hsv, hil, hfl⟩, ⟨st4', hT4, hst4⟩, hg4⟩
        clear y0 y1 y2 y3 y4 f2 f3
        have hsz4 := hg4.size
        have hO4 := hO3s.kept hg4 (fun e => by have := Option.some.inj e; omega)
        have K4 : Kept FR wr V4 := K3.trans (Kept.of_grown hg4 (fun i hi => ⟨by have := (HFR.out i hi).1; have := K3.size; omega, fun e => (HFR.out i hi).2 (by cases e; rfl)⟩))
        have hB4 := hB3s.grown hg4 hB3s.size (fun g e => by cases e; exact Nat.le_refl _)
        obtain ⟨As, cs, rfl, -⟩ := (ItemsAt.of_own hsv).form
        cases st4 with
        | none =>
          obtain rfl := HBad.out (HF5.out rfl)
          dsimp only [Option.isSome_none]
          clear hT4 hsv hO4 K4
          go_wp2
          go_ret2
          exact ⟨rfl, hB4⟩
        | some r4 =>
          obtain rfl := hil rfl
          obtain rfl := hst4 rfl
          dsimp only [Option.isSome_some]
          have f4 := hO4.frozen 3
          have q4 := grownBy_set V4 V1.heap.size 3 (.slice As il.length cs)
          have hT4s := hT4.kept q4 (fun e => by have := Option.some.inj e; omega) (fun g e => by cases e; omega)
          have hO4s : Ob (V4.setCell ⟨V1.heap.size, 3, none⟩ (.slice As il.length cs)) V1.heap.size 108 #[.int .i64 n1, .int .i64 n2, .int .i64 n3, .slice As il.length cs, .bool false] := hO4.set 3 (.slice As il.length cs)
          have K4s := K4.trans (Kept.of_grown q4 (fun i hi => ⟨by have := (HFR.out i hi).1; have := K4.size; omega, fun e => by have := (HFR.out i hi).1; cases e; omega⟩))
          have hB4s := hB4.grown q4 (by have := hB4.size; omega) (fun g e => by cases e; omega)
          have hz4 : V4.heap.size ≤ (V4.setCell ⟨V1.heap.size, 3, none⟩ (.slice As il.length cs)).heap.size := by simp
          have hsv4 := ownsRow_set (j := 3) (u := .slice As il.length cs) hsv (b := V1.heap.size) (by omega)
          obtain ⟨y0, y1, y2, y3, y4⟩ := hO4.five
          clear hT4 hO4 K4 hB4 q4 hsv
          go_wp2_with fail
          refine (C5.out _ hT4s).mono ?_
          generalize V4.setCell ⟨V1.heap.size, 3, none⟩ (.slice As il.length cs) = V4s at *
          rintro e V5 ⟨rfl, hT5, hg5⟩
          have hsz5 := hg5.size
          have hO5 := hO4s.kept hg5 (fun e => by have := Option.some.inj e; omega)
          clear y0 y1 y2 y3 y4 f4
          have f5 := hO5.frozen 4
          have q5 := grownBy_set V5 V1.heap.size 4 (.bool n5)
          have hT5s := hT5.kept q5 (fun e => by have := Option.some.inj e; omega) (fun g e => by cases e; omega)
          have hO5s : Ob (V5.setCell ⟨V1.heap.size, 4, none⟩ (.bool n5)) V1.heap.size 108 #[.int .i64 n1, .int .i64 n2, .int .i64 n3, .slice As il.length cs, .bool n5] := hO5.set 4 (.bool n5)
          have K5s := (K4s.trans (Kept.of_grown hg5 (fun i hi => ⟨by have := (HFR.out i hi).1; have := K4s.size; omega, fun e => (HFR.out i hi).2 (by cases e; rfl)⟩))).trans (Kept.of_grown q5 (fun i hi => ⟨by have := (HFR.out i hi).1; have := K4s.size; omega, fun e => by have := (HFR.out i hi).1; cases e; omega⟩))
          have hB5s := (hB4s.grown hg5 hB4s.size (fun g e => by cases e; exact Nat.le_refl _)).grown q5 (by have := hB4s.size; omega) (fun g e => by cases e; omega)
          have hsv5 := ownsRow_set (j := 4) (u := .bool n5) (ownsRow_far hsv4 hg5 (by omega)) (b := V1.heap.size) (by omega)
          have hz5 : V5.heap.size ≤ (V5.setCell ⟨V1.heap.size, 4, none⟩ (.bool n5)).heap.size := by simp
          obtain ⟨y0, y1, y2, y3, y4⟩ := hO5.five
          obtain ⟨x0, x1, x2, x3, x4⟩ := hO5s.five
          clear hT5 hO5 q5 hT4s hO4s K4s hB4s hsv4
          cases st5 with
          | none =>
            obtain rfl := HBad.out rfl
            obtain ⟨tv5, hO5t⟩ := hT5s.none_form
            have t5 := hO5t.cell (j := 1) (v := .bool true) rfl
            clear hT5s hsv5 K5s
            go_wp2
            go_ret2
            exact ⟨rfl, hB5s⟩
          | some r5 =>
          obtain ⟨tv5, tl5, hO5t, -, -⟩ := hT5s.some_form
          have t5 := hO5t.cell (j := 1) (v := .bool false) rfl
          clear hO5t
          by_cases e1 : n1 ≤ l
          · obtain rfl : R = none := by rw [HP.out, if_pos (by unfold badW; simp [e1])]
            have hd1 : decide (n1 ≤ l) = true := by simpa using e1
            clear hT5s hsv5 K5s e1
            go_wp2
            go_ret2
            exact ⟨rfl, hB5s⟩
          · have hd1 : decide (n1 ≤ l) = false := by simpa using e1
            by_cases e2 : n2 = n3
            · obtain rfl : R = none := by rw [HP.out, if_pos (by unfold badW; simp [e2])]
              have hd2 : (n2 == n3) = true := by simpa using e2
              clear hT5s hsv5 K5s e1 e2
              go_wp2
              go_ret2
              exact ⟨rfl, hB5s⟩
            · have hd2 : (n2 == n3) = false := by simpa using e2
              by_cases e3 : il.length = 0
              · obtain rfl : R = none := by rw [HP.out, if_pos (by unfold badW; simp [e3])]
                have hd3 : ((il.length : Int) == 0) = true := by simp; exact List.eq_nil_of_length_eq_zero e3
                clear hT5s hsv5 K5s e1 e2 e3
                go_wp2
                go_ret2
                exact ⟨rfl, hB5s⟩
              · have hd3 : ((il.length : Int) == 0) = false := by simp; intro h; exact e3 (by rw [h]; rfl)
                have hbad : badW l ⟨n1, n2, n3, il, n5⟩ = false := by
                  unfold badW
                  simp only [Bool.or_eq_false_iff, decide_eq_false_iff_not]
                  exact ⟨⟨e1, e2⟩, e3⟩
                have hok := HOK.out hbad
                have hPP : parseW j n1 (es.map (·.1) ++ [⟨n1, n2, n3, il, n5⟩]) (some r5) = R := by rw [HP.out, hbad]; rfl
                have hbnd := hok.mv
                dsimp only at hbnd
                have HPP := Lib.hid hPP
                have hX5 := K5s.ob HX.out (HFRi.out _ (by have := HX.out.lt; omega) (by omega))
                have hOw5 := Kept.own K5s HOwn.out (fun g hg _ => HFRi.out g (HOwn.out.lt g hg).2 (by have := (HOwn.out.lt g hg).1; omega))
                have hN5 : Nest (V5.setCell ⟨V1.heap.size, 4, none⟩ (.bool n5)) (w.heap.size + 1) u es := fun p hp => by
                  obtain ⟨lo, hi, h1, h2, h3, h4⟩ := HN.out p hp
                  exact ⟨lo, hi, K5s.sl h1 (fun i a b => HFRi.out i (by omega) (by omega)), Nat.le_trans h2 K5s.size, h3, h4⟩
                have hul := HWL.out
                clear hPP hok hbad e1 e2 e3 HOK HP HBad HF5 C1 C2 C3 C4 C5 K5s
                go_wp2
                clear x0 x1 x2 x3 x4 y0 y1 y2 y3 y4 f5 t5
                generalize V5.setCell ⟨V1.heap.size, 4, none⟩ (.bool n5) = V7 at *
                obtain ⟨Au, cu, rfl, -⟩ := (Sl.of_own hOw5).at_
                have hc3 := (show cu ≤ maxLen from (by obtain ⟨A9, c9, e9, h9, h99, -⟩ := (Sl.of_own hOw5).at_; cases e9; exact h99))
                unfold maxLen at hc3
                have hga0 := World.grownBy_alloc V7 (.cells #[.int .i64 n1, .int .i64 n2, .int .i64 n3, .slice As il.length cs, .bool n5] 108) none
                have hga : V7.grownBy (V7.alloc (.cells #[.int .i64 n1, .int .i64 n2, .int .i64 n3, .slice As il.length cs, .bool n5] 108)).drew none := ⟨hga0.os, hga0.tape, hga0.output, hga0.size, hga0.block⟩
                have hsA : ((V7.alloc (.cells #[.int .i64 n1, .int .i64 n2, .int .i64 n3, .slice As il.length cs, .bool n5] 108)).drew).heap.size = V7.heap.size + 1 := by show (V7.alloc (.cells #[.int .i64 n1, .int .i64 n2, .int .i64 n3, .slice As il.length cs, .bool n5] 108)).heap.size = _; simp
                have hXA : Ob ((V7.alloc (.cells #[.int .i64 n1, .int .i64 n2, .int .i64 n3, .slice As il.length cs, .bool n5] 108)).drew) (w.heap.size + 1) 58 #[.slice Au es.length cu] := hX5.kept hga (by simp)
                have hWA : Ob ((V7.alloc (.cells #[.int .i64 n1, .int .i64 n2, .int .i64 n3, .slice As il.length cs, .bool n5] 108)).drew) V1.heap.size 108 #[.int .i64 n1, .int .i64 n2, .int .i64 n3, .slice As il.length cs, .bool n5] := hO5s.kept hga (by simp)
                have hOA : ((V7.alloc (.cells #[.int .i64 n1, .int .i64 n2, .int .i64 n3, .slice As il.length cs, .bool n5] 108)).drew).ownsRow (w.heap.size + 2) 108 5 (.slice Au es.length cu) es.length (docCells es) := hOw5.alloc (.cells #[.int .i64 n1, .int .i64 n2, .int .i64 n3, .slice As il.length cs, .bool n5] 108)
                have hSA : Sl ((V7.alloc (.cells #[.int .i64 n1, .int .i64 n2, .int .i64 n3, .slice As il.length cs, .bool n5] 108)).drew) V7.heap.size (V7.heap.size + 1) 5 (.slice (some ⟨V7.heap.size, 0, none⟩) 1 1) 1 [.int .i64 n1, .int .i64 n2, .int .i64 n3, .slice As il.length cs, .bool n5] := (Sl.new V7 #[.int .i64 n1, .int .i64 n2, .int .i64 n3, .slice As il.length cs, .bool n5] 108 (n := 1) (size := 5) rfl (by unfold maxLen; omega)).keep (fun _ _ _ _ => rfl)
                have hNA : Nest ((V7.alloc (.cells #[.int .i64 n1, .int .i64 n2, .int .i64 n3, .slice As il.length cs, .bool n5] 108)).drew) (w.heap.size + 1) (.slice Au es.length cu) es := fun p hp => by obtain ⟨lo, hi, h1, h2, h3, h4⟩ := hN5.alloc (.cells #[.int .i64 n1, .int .i64 n2, .int .i64 n3, .slice As il.length cs, .bool n5] 108) p hp; exact ⟨lo, hi, h1.keep (fun _ _ _ _ => rfl), h2, h3, h4⟩
                have hTA := hT5s.kept hga (by simp) (by simp)
                have hBA := hB5s.grown hga hB5s.size (by simp)
                have hul2 : ∀ g, (Value.slice Au es.length cu).ownBlock = some g → w.heap.size + 2 ≤ g ∧ g < wr.heap.size := fun g hg => ⟨(HOwn.out.lt g hg).1, hul g hg⟩
                have HUL := Lib.hid hul2
                have hV7 : V4.heap.size ≤ V7.heap.size := by omega
                have hiA : ItemsAt ((V7.alloc (.cells #[.int .i64 n1, .int .i64 n2, .int .i64 n3, .slice As il.length cs, .bool n5] 108)).drew) V3s.heap.size V7.heap.size (.slice As il.length cs) il := items_but (ItemsAt.of_own hsv5) hga (Nat.le_refl _) (by simp)
                clear hul hul2 hga0 hOw5 hN5 hT5s hB5s
                refine Pt.regionT (.look 0 (.look 1 (.look 2 (.look 3 (.look 4 (.look 5 (.look 8 (.look 9 (.make 6 (.make 7 (.make 10 .nil))))))))))) (fun V => Ob V (w.heap.size + 1) 58 #[.slice Au es.length cu] ∧ Ob V V1.heap.size 108 #[.int .i64 n1, .int .i64 n2, .int .i64 n3, .slice As il.length cs, .bool n5]) hmx (by kernel_rfl) (by kernel_rfl) (by kernel_rfl) ⟨hX5, hO5s⟩ rfl ?_
                simp only [Pt.named, List.getElem?_toArray, List.getElem?_cons_succ, List.getElem?_cons_zero, Option.map_some]
                iterate 8 (apply Pt.WalkT.on (by rfl)
                           · rintro W ⟨hXW, hOW⟩
                             have x0 := hXW.cell (j := 0) (v := .slice Au es.length cu) rfl
                             obtain ⟨y0, y1, y2, y3, y4⟩ := hOW.five
                             go_wp2_with fail
                             refine ⟨rfl, ?_, rfl⟩
                             try simp only [Act.put, List.setIfInBounds_toArray, List.set_cons_succ, List.set_cons_zero]
                             rfl
                           simp only [Act.put, List.setIfInBounds_toArray, List.set_cons_succ, List.set_cons_zero])
                refine Pt.WalkT.make (by rfl) ?_
                intro V hV
                rw [hV]
                clear hV V
                go_wp2_with fail
                refine ⟨rfl, .slice (some ⟨V7.heap.size, 0, none⟩) 1 1, _, (fun V => V = (V7.alloc (.cells #[.int .i64 n1, .int .i64 n2, .int .i64 n3, .slice As il.length cs, .bool n5] 108)).drew), ?_, rfl, (fun V h => by rw [h]; exact ⟨hXA, hWA⟩), (.inr (fun _ h => h)), ?_⟩
                · simp only [Act.put, List.setIfInBounds_toArray, List.set_cons_succ, List.set_cons_zero]
                simp only [Act.put, List.setIfInBounds_toArray, List.set_cons_succ, List.set_cons_zero]
                refine Pt.WalkT.make (by rfl) ?_
                intro V hV
                rw [hV]
                clear hV V
                generalize (V7.alloc (.cells #[.int .i64 n1, .int .i64 n2, .int .i64 n3, .slice As il.length cs, .bool n5] 108)).drew = VA at *
                refine wpList_append_sl _ rfl (.tmp 81) (.tmp 83) _ rfl (w.heap.size + 2) 108 i0 _ 5 56 Tryz.underlying56 hi0 hq0 hq1 hq2 rfl (by omega) (.slice Au es.length cu) es.length (docCells es) rfl hOA V7.heap.size (V7.heap.size + 1) _ 1 [.int .i64 n1, .int .i64 n2, .int .i64 n3, .slice As il.length cs, .bool n5] rfl hSA (by simp [Value.oneCell']) (by unfold maxLen; omega) (by omega) (by omega) ?_
                intro v1 w5 hv1 hgx hat1
                have hX6 := hXA.kept hgx (fun e => by have := (HUL.out _ e.symm).1; omega)
                have hW6 := hWA.kept hgx (fun e => by have := (HUL.out _ e.symm).2; omega)
                have hT6 := hTA.kept hgx (fun e => by have := (HUL.out _ e.symm).1; omega) (fun g e => by have := (HUL.out g e).1; omega)
                have hB6 := hBA.grown hgx hBA.size (fun g e => by have := (HUL.out g e).1; omega)
                have hN6 := hNA.more (d := ⟨n1, n2, n3, il, n5⟩) hgx hat1 hiA (by omega) (by omega) (fun g hg => by have := (HUL.out g hg).2; omega)
                have hgs := hgx.size
                obtain ⟨A5, c5, rfl, -⟩ := (Sl.of_own hv1).at_
                clear hgx hat1 hXA hWA hTA hBA hNA hOA hSA hiA hga
                refine ⟨rfl, .slice A5 (es.length + 1) c5, _, (fun V => V = w5), ?_, rfl, (fun V h => by rw [h]; exact ⟨hX6, hW6⟩), (.inr (fun _ h => h)), ?_⟩
                · simp only [Act.put, List.setIfInBounds_toArray, List.set_cons_succ, List.set_cons_zero]
                simp only [Act.put, List.setIfInBounds_toArray, List.set_cons_succ, List.set_cons_zero]
                refine Pt.WalkT.make (by rfl) ?_
                intro V hV
                rw [hV]
                clear hV V
                have x0 := hX6.cell (j := 0) (v := .slice Au es.length cu) rfl
                have fx := hX6.frozen 0
                go_wp2_with fail
                refine ⟨rfl, undef, (fun _ => True), (fun V => V = w5.setCell ⟨w.heap.size + 1, 0, none⟩ (.slice A5 (es.length + 1) c5)), rfl, rfl, (fun _ _ => trivial), (.inl (by kernel_rfl)), Pt.WalkT.nil ?_⟩
                intro V hV
                rw [hV]
                clear hV V
                simp only [Act.put]
                have q9 := grownBy_set w5 (w.heap.size + 1) 0 (.slice A5 (es.length + 1) c5)
                have hX9 := hX6.set 0 (.slice A5 (es.length + 1) c5)
                have hT9 := hT6.kept q9 (fun e => by have := Option.some.inj e; omega) (fun g e => by cases e; omega)
                have hB9 := hB6.grown q9 hB6.size (fun g e => by cases e; omega)
                have hN9 := hN6.kept q9 (.inl (Nat.le_refl _))
                have hO9 := ownsRow_set (j := 0) (u := .slice A5 (es.length + 1) c5) hv1 (b := (w.heap.size + 1)) (by omega)
                have hW9 := hW6.kept q9 (fun e => by have := Option.some.inj e; omega)
                have hz9 : w5.heap.size ≤ (w5.setCell ⟨w.heap.size + 1, 0, none⟩ (.slice A5 (es.length + 1) c5)).heap.size := q9.size
                clear hX6 hW6 hT6 hB6 hN6 hv1 q9 x0 fx
                obtain ⟨y0, y1, y2, y3, y4⟩ := hW9.five
                go_wp2
                go_roundw
                case rel =>
                  refine ⟨k + 1, n1, es ++ [(⟨n1, n2, n3, il, n5⟩, .slice As il.length cs)], some r5, .slice A5 (es.length + 1) c5, by omega, by go_num, rfl, by omega, by omega, by rw [List.length_append, HES.out]; rfl, by rw [HJ.out, List.map_append]; exact HPP.out, hT9, hX9, ?_, hN9, hB9, by omega⟩
                  rw [List.length_append, docCells_append]
                  exact hO9
                case measure => simp [intOf]; omega
      · obtain rfl : k = n := by omega
        have hd : decide ((k : Int) < (k : Int)) = false := by simp
        rw [Nat.sub_self] at hP
        have HDoc := Lib.hid (show DocS wr (w.heap.size + 1) es from ⟨⟨u, hX, (Sl.of_own hown).wide (Nat.zero_le _) (Nat.le_refl _)⟩, fun p hp => by obtain ⟨lo, hi, h1, h2, -, -⟩ := hN p hp; exact h1.wide (Nat.zero_le _) h2⟩)
        clear hT hX hown hN HR hO hBy
        rcases rr with _ | ⟨x0, x1⟩
        · obtain rfl : R = some (es.map (·.1)) := by rw [← hP]; rfl
          clear hP
          go_wp2
          go_ret2
          exact ⟨⟨_, _, rfl, rfl, HDoc.out⟩, hB⟩
        · obtain rfl : R = none := by rw [← hP]; simp [parseW]
          have hd2 : 0 < (x0 :: x1).length := by simp
          generalize (x0 :: x1).length = nx at *
          clear hP
          go_wp2
          go_ret2
          exact ⟨rfl, hB⟩
end Mv
end Go.Proofs.YtdbkkldgobkjcaaGreat

namespace Go.Proofs.YtdbkkldgobkjcaaGreat
open Go.RowKit Go.Maps
namespace Mv
open It
attribute [local go_sem] Oper.semAt_some

set_option maxRecDepth 100000 in
set_option maxHeartbeats 8000000 in
theorem walksS_calls (b mb xb : Nat) (X : Nat → Prop) (ds : List Way) (es : List (Way × Value)) (w : World) (h : MvAt w b mb X ds) (hdoc : DocS w xb es) (he : es.map (·.1) = ds) :
    Calls Tryz.prog 35 #[.pointer (some ⟨b, 0, none⟩), .pointer (some ⟨xb, 0, none⟩)] w fun e w' => e = .returned (.bool true) ∧ Below w.heap.size w w' := by
  have hen := eql_nil
  have hlen : es.length = ds.length := by rw [← he]; simp
  have hds256 := h.len
  obtain ⟨v, hx, hv⟩ := hdoc.ob
  have HNEST := Lib.hid hdoc.nest
  obtain ⟨A, c, rfl, hc1, hc2, -⟩ := hv.at_
  unfold maxLen at hc2
  refine (callsIn_wide (n := 6)).1 ?_
  refine callsIn_of_wp_marks Tryz.func35 rfl trivial ?_ rfl
  simp only [Tryz.ntmps35, List.size_toArray, List.length_cons, List.length_nil, Nat.reduceAdd, Nat.reduceSub, Array.replicate_succ, Array.replicate_zero, List.push_toArray, List.append_toArray, List.nil_append, List.cons_append]
  gi_wp2_with (refine ⟨trivial, ?_⟩; gi_at_call 55; refine (callsIn_wide.2 (all_calls _ _)).mono ?_; rintro e w' ⟨rfl, rfl⟩)
  have a1 := Below.refl w.heap.size w
  have b0 := Ob.new w 55 #[.pointer (some ⟨xb, 0, none⟩)]
  have a2 := a1.alloc (Nat.le_refl _) (.cells #[.pointer (some ⟨xb, 0, none⟩)] 55)
  have b1 := Ob.new (w.alloc (.cells #[.pointer (some ⟨xb, 0, none⟩)] 55)) 4 #[.bool false]
  have a3 := a2.alloc (by simp) (.cells #[.bool false] 4)
  have b2 := Ob.new ((w.alloc (.cells #[.pointer (some ⟨xb, 0, none⟩)] 55)).alloc (.cells #[.bool false] 4)) 53 #[.pointer (some ⟨b, 0, none⟩)]
  have hB3 := a3.alloc (by simp; omega) (.cells #[.pointer (some ⟨b, 0, none⟩)] 53)
  replace b0 := (b0.alloc (.cells #[.bool false] 4)).alloc (.cells #[.pointer (some ⟨b, 0, none⟩)] 53)
  replace b1 := b1.alloc (.cells #[.pointer (some ⟨b, 0, none⟩)] 53)
  simp only [World.size_alloc] at b1 b2
  have hsz3 : (((w.alloc (.cells #[.pointer (some ⟨xb, 0, none⟩)] 55)).alloc (.cells #[.bool false] 4)).alloc (.cells #[.pointer (some ⟨b, 0, none⟩)] 53)).heap.size = w.heap.size + 3 := by simp
  generalize (((w.alloc (.cells #[.pointer (some ⟨xb, 0, none⟩)] 55)).alloc (.cells #[.bool false] 4)).alloc (.cells #[.pointer (some ⟨b, 0, none⟩)] 53)) = w3 at *
  have HSZ3 := Lib.hid hsz3
  have hdr := hB3.drew
  have hM4 := h.same hdr
  have d0 : w3.drew.cell? ⟨w.heap.size, 0, none⟩ = some (.pointer (some ⟨xb, 0, none⟩)) := b0.cell (j := 0) rfl
  have x0 : w3.drew.cell? ⟨xb, 0, none⟩ = some (.slice A es.length c) := (hx.same hdr).cell (j := 0) rfl
  have cL := Lib.hid (len_calls b mb X ds w3.drew hM4)
  have hneq : ((ds.length : Int) != (es.length : Int)) = false := by rw [hlen]; simp
  have HLEN := Lib.hid hlen
  have HM4 := Lib.hid hM4
  have HX := Lib.hid hx
  have HV := Lib.hid hv
  have HDOC := Lib.hid hdoc
  have HB3 := Lib.hid hB3
  have H := Lib.hid h
  have HE := Lib.hid he
  clear a1 a2 a3 hsz3 hM4 hB3 hv hx hdoc hdr h he hlen
  refine wpIn_wide.2 ?_
  refine Pu.regionW (fun V => V = w3.drew) hmx (by kernel_rfl) (by kernel_rfl) rfl rfl ?_
  iterate 12 (first
    | (refine Pu.Walk.off (by rfl) ?_; simp only [Act.put, List.setIfInBounds_toArray, List.set_cons_succ, List.set_cons_zero])
    | (apply Pu.Walk.on (by rfl)
       · rintro V rfl
         go_wp2_with (go_at_call 57; refine cL.out.mono ?_; rintro e W' ⟨rfl, rfl⟩)
         refine ⟨rfl, ?_, rfl⟩
         try simp only [Act.put, List.setIfInBounds_toArray, List.set_cons_succ, List.set_cons_zero]
         rfl
       simp only [Act.put, List.setIfInBounds_toArray, List.set_cons_succ, List.set_cons_zero]))
  refine Pu.Walk.nil (fun V hV => ?_)
  rw [hV]
  clear hV V d0 x0 cL hneq hen
  gi_wp2
  have b4 : Ob (w3.alloc (.cells #[.int .i64 0] 3)).drew w3.heap.size 3 #[.int .i64 0] := Ob.new w3 3 #[.int .i64 0]
  have e0 : Ob ((w3.alloc (.cells #[.int .i64 0] 3)).drew) w.heap.size 55 #[.pointer (some ⟨xb, 0, none⟩)] := b0.alloc (.cells #[.int .i64 0] 3)
  have e1 : Ob ((w3.alloc (.cells #[.int .i64 0] 3)).drew) (w.heap.size + 1) 4 #[.bool false] := b1.alloc (.cells #[.int .i64 0] 3)
  have e2 : Ob ((w3.alloc (.cells #[.int .i64 0] 3)).drew) (w.heap.size + 1 + 1) 53 #[.pointer (some ⟨b, 0, none⟩)] := b2.alloc (.cells #[.int .i64 0] 3)
  have hB5 : Below w.heap.size w (w3.alloc (.cells #[.int .i64 0] 3)).drew := (HB3.out.alloc HB3.out.size (.cells #[.int .i64 0] 3)).drew
  rw [HSZ3.out] at b4
  have hM5 : MvAt ((w3.alloc (.cells #[.int .i64 0] 3)).drew) b mb (fun i => X i ∨ i = w.heap.size + 3) ds := H.out.more hB5 fun i hi => by
    have hs5 : ((w3.alloc (.cells #[.int .i64 0] 3)).drew).heap.size = w.heap.size + 4 := by show (w3.alloc (.cells #[.int .i64 0] 3)).heap.size = _; rw [World.size_alloc, HSZ3.out]
    rcases hi with hi | rfl
    · exact ⟨.inl hi, by have := H.out.xl i hi; omega⟩
    · exact ⟨.inr (by omega), by omega⟩
  have hs5 : ((w3.alloc (.cells #[.int .i64 0] 3)).drew).heap.size = w.heap.size + 4 := by show (w3.alloc (.cells #[.int .i64 0] 3)).heap.size = _; rw [World.size_alloc, HSZ3.out]
  clear b0 b1 b2
  generalize (w3.alloc (.cells #[.int .i64 0] 3)).drew = w5 at *
  obtain ⟨X5, hX5⟩ : ∃ X5 : Nat → Prop, X5 = fun i => X i ∨ i = w.heap.size + 3 := ⟨_, rfl⟩
  rw [← hX5] at hM5
  have hxs5 : ¬ X5 (w.heap.size + 1 + 1) := fun hi => by
    rw [hX5] at hi
    rcases hi with hi | hi
    · have := H.out.xl _ hi; omega
    · omega
  have hx3 : X5 (w.heap.size + 3) := by rw [hX5]; exact .inr rfl
  have HB5 := Lib.hid hB5
  clear hX5 hB5
  simp only [HSZ3.out]
  refine Rr.range_reads (n := 6) rfl (by omega) (gf := 97) rfl trivial (enters_of Tryz.func97 (by kernel_rfl) rfl)
    (all_reads 5 (by omega) b mb (w.heap.size + 1 + 1) X5 ds w5 hM5 e2 hxs5) (Below.refl _ _) (fun h k => h.trans k) (fun W l r r' _ h => KpX.loop h) rfl
    (fun pre W => Ob W w.heap.size 55 #[.pointer (some ⟨xb, 0, none⟩)] ∧ Ob W (w.heap.size + 1) 4 #[.bool false] ∧ Ob W (w.heap.size + 3) 3 #[.int .i64 pre.length] ∧ Below w.heap.size w5 W)
    (fun c pre W => False)
    (fun s A B row hs hg hr => ⟨ob_keep hs.1 hg (fun r e => (hr r e).2), ob_keep hs.2.1 hg (fun r e => (hr r e).2), ob_keep hs.2.2.1 hg (fun r e => (hr r e).2), ownFrom_below (B := w5.heap.size) (by omega) (by omega) s A B row hs.2.2.2 hg hr⟩)
    (fun c s A B row hs hg hr => hs.elim)
    ⟨e0, e1, b4, Below.refl _ _⟩ ?round ?done ?stop
  case stop => exact fun D c pre W _ _ h _ => h.elim
  case round =>
    rintro l pre ⟨dmv, dfr, dto, dl, dcame⟩ v W hl ⟨hb0, hb1, hb2, hB⟩ hpre ⟨sv, rfl, hsv⟩
    obtain ⟨As, cs, rfl, -⟩ := hsv.form
    dsimp only [wayV]
    have hn0 : pre.length < ds.length ∧ ds[pre.length]? = some ⟨dmv, dfr, dto, dl, dcame⟩ := by
      obtain ⟨r, hr⟩ := hpre
      rw [← hr]
      simp
    have hn : pre.length < es.length := by rw [HLEN.out]; exact hn0.1
    have hdn : es[pre.length].1 = ⟨dmv, dfr, dto, dl, dcame⟩ := by
      have h1 := hn0.2
      rw [← HE.out, List.getElem?_map, List.getElem?_eq_getElem hn] at h1
      simpa using h1
    have HN0 := Lib.hid hn0
    clear hn0 hpre
    gi_wp2
    have g1 := World.grownBy_alloc W (.cells #[.int .i64 dmv, .int .i64 dfr, .int .i64 dto, .slice As dl.length cs, .bool dcame] 108) none
    refine ⟨keeps_below _ ((Below.refl _ W).alloc (Nat.le_refl _) _), KpX.of_grown g1 (fun g e => by cases e), fun W2 hg2 o2 ho21 ho22 => ?_⟩
    have ho2 : ∃ o : Obj, (W.alloc (.cells #[.int .i64 dmv, .int .i64 dfr, .int .i64 dto, .slice As dl.length cs, .bool dcame] 108)).heap[l]? = some o ∧ o.isCells = false := ⟨o2, ho21, ho22⟩
    have hb8 := ob_keep (Ob.new W 108 #[.int .i64 dmv, .int .i64 dfr, .int .i64 dto, .slice As dl.length cs, .bool dcame]) hg2 (fun r e => by cases e; exact ho2)
    replace hb0 := ob_keep (hb0.alloc _) hg2 (fun r e => by cases e; exact ho2)
    replace hb1 := ob_keep (hb1.alloc _) hg2 (fun r e => by cases e; exact ho2)
    replace hb2 := ob_keep (hb2.alloc _) hg2 (fun r e => by cases e; exact ho2)
    replace hB : Below w.heap.size w5 W2 := (hB.alloc (by have := hB.size; omega) (.cells #[.int .i64 dmv, .int .i64 dfr, .int .i64 dto, .slice As dl.length cs, .bool dcame] 108)).grown hg2 (by have := hB.size; simp; omega) (fun k e => by cases e; omega)
    have hsl : ItemsAt W2 0 W2.heap.size (.slice As dl.length cs) dl := (sl_keep (Sl.below hsv ((Below.refl _ W).alloc (Nat.le_refl _) (.cells #[.int .i64 dmv, .int .i64 dfr, .int .i64 dto, .slice As dl.length cs, .bool dcame] 108))) hg2 (fun r e => by cases e; exact ho2) (by simp)).wide (Nat.zero_le _) (by have := hg2.size; simp at this; omega)
    have hW2l : W.heap.size < W2.heap.size := by have := hg2.size; simp at this; omega
    have hbw := HB5.out.trans hB
    obtain ⟨bo, o, rfl, -, hbo, c0, c1, c2, c3, c4⟩ := docAt_cell (Sl.below HV.out hbw) hn
    have hbo2 : bo < W2.heap.size := by have := hbw.size; omega
    have hnest := HNEST.out es[pre.length] (List.getElem_mem hn)
    generalize es[pre.length] = pp at *
    obtain ⟨dd, lv⟩ := pp
    dsimp only at hdn hnest c0 c1 c2 c3 c4
    subst hdn
    dsimp only at hnest c0 c1 c2 c3 c4
    have hnW := hnest.mono hbw hbw.size
    obtain ⟨Al, cl, rfl, -⟩ := hnest.form
    have hxW := HX.out.same hbw
    have hd : decide (es.length ≤ pre.length) = false := by simp; omega
    have cS := sameW_calls ⟨dmv, dfr, dto, dl, dcame⟩ ⟨dmv, dfr, dto, dl, dcame⟩ (.slice As dl.length cs) (.slice Al dl.length cl) W2.drew (hsl.mono (Below.refl _ W2).drew (Nat.le_refl _)) (hnW.mono (Below.refl _ W2).drew (Nat.le_refl _))
    rw [(sameW_iff _ _).2 rfl] at cS
    dsimp only [wayV] at cS
    have CS := Lib.hid cS
    have HBW := Lib.hid hB
    have l1 : (0 : Int) ≤ (pre.length : Int) := by omega
    have l2 : (pre.length : Int) < (es.length : Int) := by omega
    clear cS ho2 ho21 ho22 hsl hnW hnest hsv g1 hbw hg2 hB
    generalize hpl : pre.length = n at *
    have HPL := Lib.hid hpl
    clear hpl
    gi_wp2
    refine Pi.regionIn [(0, false), (1, false), (2, false), (3, false), (4, false), (5, false), (6, false), (7, false), (8, false), (9, false), (10, false), (11, false), (12, false), (13, false), (14, false), (15, false), (16, true), (17, false), (18, false)]
      (fun V => Ob V w.heap.size 55 #[.pointer (some ⟨xb, 0, none⟩)] ∧ Ob V (w.heap.size + 3) 3 #[.int .i64 n] ∧ Ob V W.heap.size 108 #[.int .i64 dmv, .int .i64 dfr, .int .i64 dto, .slice As dl.length cs, .bool dcame] ∧ Ob V xb 58 #[.slice (some ⟨bo, o, none⟩) es.length c] ∧ W2.heap.size ≤ V.heap.size ∧ Below W2.heap.size W2 V)
      hmx (by kernel_rfl) (by kernel_rfl) (by kernel_rfl) (by kernel_rfl) ⟨hb0, hb2, hb8, hxW, Nat.le_refl _, (Below.refl _ W2).drew⟩ rfl ?_
    simp only [Pu.named, List.filterMap_cons, List.filterMap_nil, List.getElem?_toArray, List.getElem?_cons_succ, List.getElem?_cons_zero, Option.map_some]
    iterate 16 (apply Pu.WalkM.on (by rfl)
                · rintro V ⟨k0, k2, k8, kx, ks, kb⟩
                  have z0 := k0.cell (j := 0) (v := .pointer (some ⟨xb, 0, none⟩)) rfl
                  have z2 := k2.cell (j := 0) (v := .int .i64 n) rfl
                  have zx := kx.cell (j := 0) (v := .slice (some ⟨bo, o, none⟩) es.length c) rfl
                  obtain ⟨y0, y1, y2, y3, y4⟩ := k8.five
                  have r0 := (kb.cell (p := ⟨bo, o + n * 5, none⟩) hbo2).trans c0
                  have r1 := (kb.cell (p := ⟨bo, o + n * 5 + 1, none⟩) hbo2).trans c1
                  have r2 := (kb.cell (p := ⟨bo, o + n * 5 + 2, none⟩) hbo2).trans c2
                  have r3 := (kb.cell (p := ⟨bo, o + n * 5 + 3, none⟩) hbo2).trans c3
                  have r4 := (kb.cell (p := ⟨bo, o + n * 5 + 4, none⟩) hbo2).trans c4
                  go_wp2_with fail
                  refine ⟨rfl, ?_, rfl⟩
                  try simp only [Act.put, List.setIfInBounds_toArray, List.set_cons_succ, List.set_cons_zero]
                  rfl
                simp only [Act.put, List.setIfInBounds_toArray, List.set_cons_succ, List.set_cons_zero])
    refine Pu.WalkM.make (by rfl) ?_
    intro V hV
    rw [hV]
    clear hV V
    go_wp2_with (go_at_call 76; refine CS.out.mono ?_; rintro e W3 ⟨rfl, hb3⟩)
    have hb3' : Below W2.heap.size W2 W3 := (Below.refl _ W2).drew.trans hb3
    refine ⟨rfl, .bool true, _, (fun V => V = W3), ?_, rfl, (fun V h => by rw [h]; exact ⟨hb0.same hb3', hb2.same hb3', hb8.same hb3', hxW.same hb3', hb3'.size, hb3'⟩), (.inr (fun _ h => h)), ?_⟩
    · simp only [Act.put, List.setIfInBounds_toArray, List.set_cons_succ, List.set_cons_zero]
    simp only [Act.put, List.setIfInBounds_toArray, List.set_cons_succ, List.set_cons_zero]
    iterate 02 (apply Pu.WalkM.on (by rfl)
                · rintro V -
                  go_wp2_with fail
                  refine ⟨rfl, ?_, rfl⟩
                  try simp only [Act.put, List.setIfInBounds_toArray, List.set_cons_succ, List.set_cons_zero]
                  rfl
                simp only [Act.put, List.setIfInBounds_toArray, List.set_cons_succ, List.set_cons_zero])
    refine Pu.WalkM.nil ?_
    intro V hV
    rw [hV]
    clear hV V
    refine Pi.OnlyN.out ?_
    have z2 := (hb2.same hb3').cell (j := 0) (v := .int .i64 n) rfl
    have f2 := (hb2.same hb3').frozen 0
    have hl256 : (n : Int) < 256 := by have := HLEN.out; omega
    clear c0 c1 c2 c3 c4 hd l1 l2
    gi_wp2
    have g3 := only_of_below hb3' none
    refine ⟨keeps_set (keeps_below _ hb3') _ _, (KpX.of_grown g3 (fun g e => by cases e)).trans (KpX.of_grown (grownBy_set W3 _ 0 _) (fun g e => by cases e; exact hx3)), ((hb0.same hb3').other (by omega) 0 _), ((hb1.same hb3').other (by omega) 0 _), ?_, ?_⟩
    · have := (hb2.same hb3').set 0 (.int .i64 ((n : Int) + 1))
      rw [List.length_append, HPL.out]
      exact this
    · exact (HBW.out.trans (hb3'.mono (by have := HBW.out.size; omega))).grown (grownBy_set W3 _ 0 _) (by have := HBW.out.size; have := hb3'.size; omega) (fun k e => by cases e; omega)
  case done =>
    rintro D xs W hD rfl ⟨hb0, hb1, hb2, hB⟩ hK
    gi_wp2
    have hbw := HB5.out.trans hB
    have hxW : Ob W.drew xb 58 #[.slice A es.length c] := HX.out.same hbw.drew
    have k0 : Ob W.drew w.heap.size 55 #[.pointer (some ⟨xb, 0, none⟩)] := hb0
    have k1 : Ob W.drew (w.heap.size + 1) 4 #[.bool false] := hb1
    have k2 : Ob W.drew (w.heap.size + 3) 3 #[.int .i64 xs.length] := hb2
    have hq : ((xs.length : Int) == (es.length : Int)) = true := by rw [HLEN.out]; simp
    have hBs := hB.size
    clear hb0 hb1 hb2
    refine wpIn_wide.2 ?_
    refine Pu.regionM [(0, false), (1, false), (2, false), (3, false), (4, false), (5, false), (6, false), (7, true)]
      (fun V => Ob V w.heap.size 55 #[.pointer (some ⟨xb, 0, none⟩)] ∧ Ob V (w.heap.size + 3) 3 #[.int .i64 xs.length] ∧ Ob V xb 58 #[.slice A es.length c])
      hmx (by kernel_rfl) (by kernel_rfl) (by kernel_rfl) ⟨k0, k2, hxW⟩ rfl ?_
    simp only [Pu.named, List.filterMap_cons, List.filterMap_nil, List.getElem?_toArray, List.getElem?_cons_succ, List.getElem?_cons_zero, Option.map_some]
    iterate 07 (apply Pu.WalkM.on (by rfl)
                · rintro V ⟨m0, m2, mx⟩
                  have z0 := m0.cell (j := 0) (v := .pointer (some ⟨xb, 0, none⟩)) rfl
                  have z2 := m2.cell (j := 0) (v := .int .i64 xs.length) rfl
                  have zx := mx.cell (j := 0) (v := .slice A es.length c) rfl
                  go_wp2_with fail
                  refine ⟨rfl, ?_, rfl⟩
                  try simp only [Act.put, List.setIfInBounds_toArray, List.set_cons_succ, List.set_cons_zero]
                  rfl
                simp only [Act.put, List.setIfInBounds_toArray, List.set_cons_succ, List.set_cons_zero])
    refine Pu.WalkM.make (by rfl) ?_
    intro V hV
    rw [hV]
    clear hV V
    have z1 := k1.cell (j := 0) (v := .bool false) rfl
    have f1 := k1.frozen 0
    go_wp2_with fail
    refine ⟨rfl, undef, (fun _ => True), (fun V => V = W.drew.setCell ⟨w.heap.size + 1, 0, none⟩ (.bool true)), rfl, rfl, (fun _ _ => trivial), (.inl (by kernel_rfl)), Pu.WalkM.nil ?_⟩
    intro V hV
    rw [hV]
    clear hV V
    simp only [Act.put]
    have hb22 := k1.set 0 (.bool true)
    have hBB := hB.drew.grown (grownBy_set W.drew (w.heap.size + 1) 0 (.bool true)) (by show w.heap.size ≤ W.heap.size; omega) (fun k e => by cases e; omega)
    have hK2 : (W.drew.setCell ⟨w.heap.size + 1, 0, none⟩ (.bool true)).heap[D]? = some (.deferred (some [])) := ((grownBy_set W.drew (w.heap.size + 1) 0 (.bool true)).block D (Array.getElem?_eq_some_iff.1 hK).1 (fun e => by cases e; omega)).trans hK
    clear z1 f1
    gi_wp2
    refine ⟨by simp, .inl ⟨_, _, rfl, run_takeDeferred hK2, ?_⟩⟩
    have c4 : ((W.setCell ⟨w.heap.size + 1, 0, none⟩ (.bool true)).drew.putObj D (.deferred none)).cell? ⟨w.heap.size + 1, 0, none⟩ = some (.bool true) := (boxed_end hb22 hK2).cell
    refine ⟨.bool true, ?_, rfl, below_end (HB5.out.trans hBB) (by omega) hK2⟩
    simp [results, Tryz.f35, go_sem, c4]
end Mv
end Go.Proofs.YtdbkkldgobkjcaaGreat

namespace Go.Proofs.YtdbkkldgobkjcaaGreat
open Go.RowKit Go.Maps
namespace Mv
open It Ce

set_option maxRecDepth 100000 in
set_option maxHeartbeats 8000000 in
theorem unpacks_law (bl : List UInt8) (v : Value) (w : World) (hI : BytesAt w 0 w.heap.size v bl) (hbl : bl.length ≤ 140737488351232) :
    Calls Tryz.prog 5 #[v] w fun e w' => e = .returned (.bool true) ∧ Below w.heap.size w w' := by
  obtain ⟨i0, hi0, hz0⟩ := Option.map_eq_some_iff.1 byte_info
  simp only [Prod.mk.injEq] at hz0
  obtain ⟨hz0, hz1, hz2⟩ := hz0
  have HI := Lib.hid (fun W (h : Below w.heap.size w W) => hI.mono h h.size)
  have HBL := Lib.hid hbl
  have cD := Lib.hid (fun u W h => unpack_calls bl u W h HBL.out)
  have crD := Lib.hid (fun W h => refunpack_calls bl v W (HI.out W h))
  have cL := Lib.hid lives_calls
  have HT := Lib.hid (fun ds h => unpack_took (b := bl) (ds := ds) h)
  obtain ⟨A, c, rfl, hc1, hc2⟩ := hI.form
  have h0 := Lib.hid hI
  clear hI hbl
  unfold maxLen at hc2
  generalize unpackW bl = R at *
  go_enter Tryz.func5, Tryz.ntmps5
  go_wp2_with (at_builtin
               refine wpList_append_sl _ rfl (.tmp 8) (.tmp 9) _ rfl w.heap.size 5 i0 _ 1 1 Tryz.underlying65 hi0 hz0 hz1 hz2 rfl (by omega) (.slice (some ⟨w.heap.size, 0, none⟩) 0 0) 0 [] rfl (World.ownsRow_lit w #[] 0 (Nat.le_refl _) (Nat.zero_le _) rfl) 0 w.heap.size _ bl.length (bytesV bl) rfl (Sl.below h0.out ((Below.refl _ w).alloc (Nat.le_refl _) _)) (bytesV_one bl) (by have := HBL.out; unfold maxLen; omega) (by have := HBL.out; omega) (by simp) ?_
               intro v1 w1 hv1 hg1 hat1
               have hB : Below w.heap.size w w1 := ((Below.refl _ w).alloc (Nat.le_refl _) (.cells #[] 5)).grown hg1 (by simp) (fun g hg => by cases hg; exact Nat.le_refl _)
               clear hg1 hat1)
  have hown : w1.ownsRow w.heap.size 5 1 v1 bl.length (bytesV bl) := by simpa using hv1
  have hx1 := BytesAt.all hown
  obtain ⟨A1, c1, rfl, -⟩ := hx1.form
  clear hv1 hown
  have hlt1 := hB.size
  generalize hsb : (⟨bl.toArray⟩ : ByteArray) = sb at *
  have HSB := Lib.hid hsb
  clear hsb
  have HC1 := Lib.hid (fun V (hb : Below w1.heap.size w1 V) => show (convert 65 9 (.slice A1 bl.length c1)).run Tryz.prog V = .ok (.string sb) V from by rw [← HSB.out]; exact run_string_at (P := Tryz.prog) (w := V) (dst := 9) Tryz.underlying65 Tryz.underlying5 Tryz.underlying9 (hx1.below hb))
  have HC0 := Lib.hid (fun V (hb : Below w.heap.size w V) => show (convert 65 9 (.slice A bl.length c)).run Tryz.prog V = .ok (.string sb) V from by rw [← HSB.out]; exact run_string_at (P := Tryz.prog) (w := V) (dst := 9) Tryz.underlying65 Tryz.underlying5 Tryz.underlying9 (HI.out V hb))
  cases R with
  | none =>
    go_wp2_with fail
    refine (cD.out _ _ hx1).mono ?_
    rintro e W2 ⟨rfl, hb2⟩
    clear hx1
    go_wp2_with fail
    refine (crD.out _ (hB.trans (hb2.mono hB.size))).mono ?_
    rintro e W3 ⟨rfl, hb3⟩
    have hb13 := hb2.trans (hb3.mono hb2.size)
    go_wp2_with fail
    refine (cL.out _).mono ?_
    rintro e W4 ⟨rfl, hb4⟩
    have hb14 := hb13.trans (hb4.mono hb13.size)
    have hcv1 := HC1.out _ hb14
    have hB4 := hB.trans (hb14.mono hB.size)
    have hcv0 := HC0.out _ hB4
    clear hb2 hb3 hb4 hb13 hb14
    go_wp2_with fail
    refine Pu.regionM [(0, false), (1, false), (2, false), (3, false), (4, false), (5, true), (6, false), (7, false), (10, false), (11, false), (8, true), (9, false), (12, false), (13, false), (14, false), (15, false)] (fun V => Below W4.heap.size W4 V) hmx (by kernel_rfl) (by kernel_rfl) (by kernel_rfl) ((Below.refl W4.heap.size W4).drew) rfl ?_
    simp only [Pu.named, List.filterMap_cons, List.filterMap_nil, List.getElem?_toArray, List.getElem?_cons_succ, List.getElem?_cons_zero, Option.map_some]
    iterate 16 (first
      | (refine Pu.WalkM.off (by rfl) ?_; simp only [Act.put, List.setIfInBounds_toArray, List.set_cons_succ, List.set_cons_zero])
      | (apply Pu.WalkM.on (by rfl)
         · intro V hV
           go_wp2_with fail
           refine ⟨rfl, ?_, rfl⟩
           try simp only [Act.put, List.setIfInBounds_toArray, List.set_cons_succ, List.set_cons_zero]
           rfl
         simp only [Act.put, List.setIfInBounds_toArray, List.set_cons_succ, List.set_cons_zero]))
    refine Pu.WalkM.nil ?_
    intro V hV
    rw [hV]
    clear hV V
    go_wp2
    go_ret
    exact ⟨rfl, hB4.drew⟩
  | some ds =>
    have HTd := Lib.hid (HT.out ds rfl)
    clear HT
    go_wp2_with fail
    refine (cD.out _ _ hx1).mono ?_
    rintro e W2 ⟨⟨b, mb, rfl, hM⟩, hb2⟩
    clear hx1
    go_wp2_with fail
    refine (crD.out _ (hB.trans (hb2.mono hB.size))).mono ?_
    rintro e W3 ⟨⟨xb, es, rfl, hes, hD⟩, hb3⟩
    have hb13 := hb2.trans (hb3.mono hb2.size)
    have hM3 := (hM (fun _ => False) (fun _ h => h.elim)).same hb3
    clear hM
    go_wp2_with fail
    refine (cL.out _).mono ?_
    rintro e W4 ⟨rfl, hb4⟩
    have hb14 := hb13.trans (hb4.mono hb13.size)
    have hM4 := hM3.same hb4
    have hD4 : DocS W4 xb es := ⟨by obtain ⟨v, h1, h2⟩ := hD.ob; exact ⟨v, h1.same hb4, Sl.mono h2 hb4 hb4.size⟩, fun p hp => (hD.nest p hp).mono hb4 hb4.size⟩
    have hcv1 := HC1.out _ hb14
    have hB4 := hB.trans (hb14.mono hB.size)
    have hcv0 := HC0.out _ hB4
    have hdr := (Below.refl W4.heap.size W4).drew
    have cW := Lib.hid (walksS_calls b mb xb _ ds es W4.drew (hM4.same hdr) ⟨by obtain ⟨v, h1, h2⟩ := hD4.ob; exact ⟨v, h1.same hdr, Sl.mono h2 hdr hdr.size⟩, fun p hp => (hD4.nest p hp).mono hdr hdr.size⟩ hes)
    have cP := fun V (hb : Below W4.heap.size W4 V) => pack_calls b mb _ ds V (hM4.same hb)
    rw [HTd.out] at cP
    have CP := Lib.hid cP
    clear hb2 hb3 hb4 hb13 hb14 hM3 hM4 hD hD4 cP hes
    go_wp2_with fail
    refine Pu.regionM [(0, false), (1, false), (2, false), (3, false), (4, false), (5, true), (6, false), (7, false), (10, false), (11, false), (8, true), (9, false), (12, false), (13, false), (14, false), (15, false)] (fun V => Below W4.heap.size W4 V) hmx (by kernel_rfl) (by kernel_rfl) (by kernel_rfl) hdr rfl ?_
    simp only [Pu.named, List.filterMap_cons, List.filterMap_nil, List.getElem?_toArray, List.getElem?_cons_succ, List.getElem?_cons_zero, Option.map_some]
    iterate 5 (apply Pu.WalkM.on (by rfl)
               · intro V hV
                 go_wp2_with fail
                 refine ⟨rfl, ?_, rfl⟩
                 try simp only [Act.put, List.setIfInBounds_toArray, List.set_cons_succ, List.set_cons_zero]
                 rfl
               simp only [Act.put, List.setIfInBounds_toArray, List.set_cons_succ, List.set_cons_zero])
    refine Pu.WalkM.make (by rfl) ?_
    intro V hV
    rw [hV]
    clear hV V
    go_wp2_with (go_at_call 35; refine cW.out.mono ?_; rintro e W5 ⟨rfl, hb5⟩)
    have hn5 := hdr.trans hb5
    refine ⟨rfl, .bool true, (fun V => Below W4.heap.size W4 V), (fun V => V = W5), ?_, rfl, (fun V h => by rw [h]; exact hn5), (.inr (fun _ h => h)), ?_⟩
    · try simp only [Act.put, List.setIfInBounds_toArray, List.set_cons_succ, List.set_cons_zero]
    try simp only [Act.put, List.setIfInBounds_toArray, List.set_cons_succ, List.set_cons_zero]
    iterate 4 (apply Pu.WalkM.on (by rfl)
               · intro V hV
                 have hcv5 := HC0.out V (hB4.trans (hV.mono hB4.size))
                 go_wp2_with fail
                 refine ⟨rfl, ?_, rfl⟩
                 try simp only [Act.put, List.setIfInBounds_toArray, List.set_cons_succ, List.set_cons_zero]
                 rfl
               simp only [Act.put, List.setIfInBounds_toArray, List.set_cons_succ, List.set_cons_zero])
    refine Pu.WalkM.make (by rfl) ?_
    intro V hV
    rw [hV]
    clear hV V
    go_wp2_with (go_at_call 32; refine (CP.out _ hn5).mono ?_; rintro e W6 ⟨⟨pv, rfl, hpv⟩, hb6⟩)
    have hn6 := hn5.trans (hb6.mono hn5.size)
    have hp6 : BytesAt W6 0 W6.heap.size pv bl := BytesAt.all hpv
    obtain ⟨Ap, cp, rfl, -⟩ := hp6.form
    have HC6 := Lib.hid (fun V (hb : Below W6.heap.size W6 V) => show (convert 65 9 (.slice Ap bl.length cp)).run Tryz.prog V = .ok (.string sb) V from by rw [← HSB.out]; exact run_string_at (P := Tryz.prog) (w := V) (dst := 9) Tryz.underlying65 Tryz.underlying5 Tryz.underlying9 (hp6.below hb))
    clear hpv
    refine ⟨rfl, .slice Ap bl.length cp, (fun V => Below W6.heap.size W6 V), (fun V => V = W6), ?_, rfl, (fun V h => by rw [h]; exact Below.refl _ _), (.inr (fun V h => hn6.trans (h.mono hn6.size))), ?_⟩
    · try simp only [Act.put, List.setIfInBounds_toArray, List.set_cons_succ, List.set_cons_zero]
    try simp only [Act.put, List.setIfInBounds_toArray, List.set_cons_succ, List.set_cons_zero]
    iterate 5 (apply Pu.WalkM.on (by rfl)
               · intro V hV
                 have hcv6 := HC6.out V hV
                 go_wp2_with fail
                 refine ⟨rfl, ?_, rfl⟩
                 try simp only [Act.put, List.setIfInBounds_toArray, List.set_cons_succ, List.set_cons_zero]
                 rfl
               simp only [Act.put, List.setIfInBounds_toArray, List.set_cons_succ, List.set_cons_zero])
    refine Pu.WalkM.nil ?_
    intro V hV
    rw [hV]
    clear hV V
    go_wp2
    go_ret
    exact ⟨rfl, hB4.trans (hn6.mono hB4.size)⟩
end Mv
end Go.Proofs.YtdbkkldgobkjcaaGreat

namespace Go.Proofs.YtdbkkldgobkjcaaGreat
open Go.ChangeShapes Go.WideShapes Go.Deep Go.RowKit Go.ChangeAt
namespace Ce
set_option maxRecDepth 100000 in
/-- an argument that is a slice of bytes -/
theorem open_bytes {H : Type} {enc : TypeId × Value → H} {W : World} {base : Nat} {v : Value} {d : DataW H} {p : List MemPlace} {held : Bool} (hval : Value.okWide Tryz.prog W .any base 65 v)
    (h : DataW.Trod enc Tryz.prog W 0 (fun _ => true) held 65 v d p) :
    ∃ L : List UInt8, BytesAt W 0 W.heap.size v L ∧ ((d = .nil ∧ L = []) ∨ ∃ es sp, d = .slice es sp ∧ es.length = L.length) := by
  obtain ⟨A, n, c, rfl⟩ := okWide_slice Tryz.underlying65 hval
  obtain ⟨fuel, hf⟩ := h
  rcases open_slice1 Tryz.underlying65 (show Tryz.prog.cellsOf 5 = 1 by kernel_rfl) hf with ⟨h1, h2⟩ | ⟨a, len, cap, m, n', V, D, Pl, hcs, hb, hl, hm, hmm, hx, hi⟩
  · simp only [Value.cells, List.cons.injEq, and_true] at h1
    cases h1
    simp only [Prod.mk.injEq] at h2
    exact ⟨[], BytesAt.nil _ _ _, .inl ⟨h2.1, rfl⟩⟩
  · simp only [Value.cells, List.cons.injEq, and_true] at hcs
    cases hcs
    simp only [if_true] at hmm
    subst hmm
    simp only [Prod.mk.injEq] at hx
    have hel : ∀ i, i < n → ∃ x : UInt8, W.cell? (a.add i) = some (.int .u8 (x.toNat : Int)) := by
      intro i hin
      obtain ⟨hc, ht'⟩ := hi i (by omega)
      obtain ⟨k, e1, _, hk⟩ := DataW.trod_int Tryz.underlying5 ht'
      have hkb : 0 ≤ k ∧ k ≤ 255 := by simpa [Lit.wf, IntKind.min, IntKind.max, IntKind.signed, IntKind.bits] using hk
      simp only [List.cons.injEq, and_true] at e1
      refine ⟨UInt8.ofNat k.toNat, ?_⟩
      rw [toNat_ofNat (by omega), show ((k.toNat : Nat) : Int) = k by omega, hc, e1]
    obtain ⟨L, hLn, hL⟩ := list_of n _ hel
    refine ⟨L, ?_, .inr ⟨_, _, hx.1, by simp [hLn]⟩⟩
    rcases Nat.eq_zero_or_pos n with h0 | h0
    · subst h0
      obtain rfl : L = [] := List.eq_nil_of_length_eq_zero hLn
      exact ⟨rfl, _, _, rfl, hl, hm, fun h => by omega⟩
    · have h1 := cell_addr (hL 0 (by omega))
      obtain ⟨b, o, sp⟩ := a
      have hsp : sp = none := by
        have := h1.1
        unfold Addr.add at this
        simpa using this
      subst hsp
      have hb : b < W.heap.size := by
        have := h1.2
        rw [addr_add] at this
        exact this
      subst hLn
      refine ⟨by rw [bytesV_length]; simp, _, _, rfl, hl, hm, fun _ => ⟨b, o, rfl, Nat.zero_le _, hb, fun j hj => ?_⟩⟩
      have hj' : j < L.length := by simpa using hj
      have := hL j hj'
      rw [addr_add] at this
      rw [this]
      unfold bytesV
      rw [List.getElem?_map, List.getElem?_eq_getElem hj']
      rfl
theorem bytes_bytes : Tryz.prog.bytesOf 5 = 1 := by kernel_rfl
theorem bytes_reach {H : Type} {ts : List TypeId} {ds : List (DataW H)} {j : Nat} {d : DataW H} {L : List UInt8} (h : (DataW.weightsEach Tryz.prog ts ds).all (· ≤ reachBytes) = true) (ht : ts[j]? = some 65) (hd : ds[j]? = some d)
    (hx : (d = .nil ∧ L = []) ∨ ∃ es sp, d = .slice es sp ∧ es.length = L.length) : L.length ≤ 140737488351232 := by
  rcases hx with ⟨_, rfl⟩ | ⟨es, sp, rfl, hl⟩
  · simp
  · have := sized_slice h ht hd Tryz.underlying65
    rw [bytes_bytes] at this
    unfold reachBytes at this
    omega
end Ce
end Go.Proofs.YtdbkkldgobkjcaaGreat

namespace Go.Proofs.YtdbkkldgobkjcaaGreat
open Go.ChangeShapes Go.WideShapes Go.ChangeAt Go.RowKit
namespace Mv
set_option maxRecDepth 100000 in
theorem moveUnpacks_lifted (os : Os) (started : os.Started) (H : Type) (enc : TypeId × Value → H) :
    ReturnsInHanded {} Tryz.checked os 5 .any (Rows.moveUnpacksSpec.pre6 enc Tryz.prog Tryz.f5 Rows.moveUnpacksRow.domain false) (Rows.moveUnpacksSpec.post enc Tryz.prog Tryz.f5 false true false false) := by
  refine returnsInHanded_of_change_sized (C := Tryz.checked) own started (by kernel_rfl) Tryz.func5
    (ChangeSpec.witness6 (enc := enc) (C := Tryz.checked) false ⟨#[], #[.slice none 0 0], []⟩ 8 (by kernel_rfl) (by kernel_rfl) (by kernel_rfl) (by kernel_rfl)) ?_
  intro W base args ds gs before hval0 hW _ hsz0 _
  have hsz : (DataW.weightsEach Tryz.prog (Tryz.f5.params.toList ++ Rows.moveUnpacksSpec.plain.varTypes Tryz.prog) (ds ++ gs)).all (· ≤ reachBytes) = true := hsz0
  have hval : ∀ (j : Nat) t v, Tryz.f5.params[j]? = some t → args[j]? = some v → Value.okWide Tryz.prog W .any base t v := hval0
  obtain ⟨p, q, hA0, hV, hps, hfz, hnd⟩ := id hW
  have hA : DataW.TrodAll enc Tryz.prog W 0 (fun _ => true) true Tryz.f5.params.toList args.toList ds p := hA0
  rw [Tryz.params5] at hA hval hsz
  obtain ⟨v0, vs0, d0, ds0, p0, q0, hargs, rfl, rfl, h0, r0⟩ := trodAll_cons hA
  obtain ⟨rfl, rfl, rfl⟩ := trodAll_nil r0
  obtain rfl : args = #[v0] := by cases args; simp_all
  obtain ⟨rfl, rfl⟩ := trodVars_none hV
  obtain ⟨b, hb, db⟩ := Ce.open_bytes (hval 0 65 v0 rfl rfl) h0
  have rb := Ce.bytes_reach (j := 0) hsz rfl rfl db
  refine (unpacks_law b v0 W hb rb).mono fun e W' ⟨he, hb⟩ => ?_
  subst he
  exact ⟨_, rfl, law_post laidOut (by kernel_rfl) rfl Tryz.underlying4 rfl hW rfl hb⟩

theorem moveUnpacks_holds : Rows.MoveUnpacksSaid :=
  OpenClaim.holds_of_wide 5 Tryz.f5 rfl rfl rfl rfl rfl rfl rfl ⟨rfl, rfl, rfl, rfl, rfl⟩ rfl rfl rfl rfl rfl (by kernel_rfl) Tryz.func5 (by kernel_rfl)
    (of_decide_eq_true (by kernel_rfl)) (by unfold Func.isWrapper; first | (rw [if_pos (by decide +kernel)]; kernel_rfl) | (rw [if_neg (by decide +kernel)]; exact ⟨rfl, rfl⟩))
    (fun os started H enc _ => moveUnpacks_lifted os started H enc)

end Mv
end Go.Proofs.YtdbkkldgobkjcaaGreat
