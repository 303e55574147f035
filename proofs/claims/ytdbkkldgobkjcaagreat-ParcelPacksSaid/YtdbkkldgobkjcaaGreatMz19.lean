/-
  parcels: the iterator All reads its parcels.
  parcels: what nil parcels do; the document's Same.
  parcels: the law's walks: all parcels are gone over, in the document's order.
  parcels: the program's and the document's, side by side.
  parcels: their codes in plain words.
  slices.Sorted(maps.Keys(m)): the keys of a map with int keys (map[int]bool), sorted, by the library's contracts.
  parcels: Pack.
-/
import Derived.Test.YtdbkkldgobkjcaaGreatMz16
import Derived.Test.YtdbkkldgobkjcaaGreatMz18
import Derived.Test.YtdbkkldgobkjcaaGreatMz15
import Derived.Test.YtdbkkldgobkjcaaGreatMz9
import Derived.Test.YtdbkkldgobkjcaaGreatMz8
import Derived.Test.YtdbkkldgobkjcaaGreatMz7
import Derived.Test.YtdbkkldgobkjcaaGreatLayed
import Derived.Test.YtdbkkldgobkjcaaGreatMz3
import Derived.Shelf.SlIterI.Nil
import Derived.Shelf.SortM.Plain
import Derived.Shelf.SortM.SortNone

set_option linter.unusedVariables false
set_option linter.unusedSimpArgs false
namespace Go.Proofs.YtdbkkldgobkjcaaGreat
open Go.RowKit Go.Maps
namespace Pc
open It Mv
attribute [local go_sem] Oper.semAt_some

theorem LiAt.kpx {X F : Nat → Prop} {A B : World} {v : Value} {l : List It.Item} (h : LiAt A F v l) (hk : KpX X A B) (hF : ∀ i, F i → ¬ X i) : LiAt B F v l := by
  obtain ⟨lo, hi, h1, h2, h3⟩ := h
  exact ⟨lo, hi, hk.sl h1 (fun i a b => hF i (h3 i a b)), Nat.le_trans h2 hk.size, h3⟩
theorem RowAt.kpx {X F : Nat → Prop} {A B : World} {val : Value} {d : Row} (h : RowAt A F val d) (hk : KpX X A B) (hF : ∀ i, F i → ¬ X i) : RowAt B F val d := by
  obtain ⟨v1, v2, v3, e, h1, h2, h3⟩ := h
  exact ⟨v1, v2, v3, e, h1.kpx hk hF, h2.kpx hk hF, h3.kpx hk hF⟩
theorem Rel.kpx {X F : Nat → Prop} {A B : World} (hk : KpX X A B) (hF : ∀ i, F i → ¬ X i) : ∀ {m : List (Int × Value)} {ds : List Row}, Rel A F m ds → Rel B F m ds
  | [], [], _ => trivial
  | _ :: _, _ :: _, h => ⟨h.1, h.2.1.kpx hk hF, Rel.kpx hk hF h.2.2⟩
  | [], _ :: _, h => h.elim
  | _ :: _, [], h => h.elim
theorem PcAt.kpx {X : Nat → Prop} {A B : World} {base b mb : Nat} {ds : List Row} (h : PcAt A base b mb X ds) (hk : KpX X A B) : PcAt B base b mb X ds := by
  obtain ⟨m, hm, hR⟩ := h.map
  exact ⟨hk.ob h.ob h.nx.1, ⟨m, hk.gmap hm h.nx.2, hR.kpx hk (fun i hi => hi.2.2.1)⟩, fun d hd => hk.gmap (h.frm d hd) (h.sep d hd).2.2.1, h.apart, h.sep, h.ne, h.lo, h.nx, fun i hi => Nat.lt_of_lt_of_le (h.xl i hi) hk.size, h.ok⟩
theorem findR_sorted : ∀ {ds : List Row}, SortedR ds → ∀ (k : Nat) (h : k < ds.length), findR ds ds[k].od = some ds[k]
  | [], _, k, h => by simp at h
  | d :: r, hp, 0, _ => by rw [findR_cons]; exact if_pos rfl
  | d :: r, hp, k + 1, h => by
    replace hp := List.pairwise_cons.1 hp
    have hk : k < r.length := by simpa using h
    rw [findR_cons, List.getElem_cons_succ, if_neg (fun e => by have := hp.1 r[k] (List.getElem_mem hk); omega)]
    exact findR_sorted hp.2 k hk

theorem fieldP (x0 x1 x2 x3 x4 : Value) (W : World) : (Instr.field 87 (.agg #[x0, x1, x2, x3, x4]) 0).run Tryz.prog W = .ok (.agg #[x0, x1, x2, x3]) W := by kernel_rfl

/-- how a parcel that is handed over reads: its lists lie in blocks from lo on -/
def RdP (lo : Nat) (d : Row) (v : Value) (W : World) : Prop := ∃ u1 u2 u3, v = pclV d.od u1 u2 u3 ∧ ItemsAt W lo W.heap.size u1 d.wa ∧ ItemsAt W lo W.heap.size u2 d.sh ∧ ItemsAt W lo W.heap.size u3 d.ba

set_option maxRecDepth 100000 in
set_option maxHeartbeats 4000000 in
theorem allP_reads (n : Nat) (hn : 1 ≤ n) (base b mb Bs : Nat) (X : Nat → Prop) (ds : List Row) (w : World) (h : PcAt w base b mb X ds) (hbs : Ob w Bs 23 #[.pointer (some ⟨b, 0, none⟩)]) (hxs : ¬ X Bs) :
    Rr.Reads Fence.wide n Tryz.prog 85 #[.pointer (some ⟨Bs, 0, none⟩)] (RdP w.heap.size) (KpX X) (fun xs => xs = ds) (fun pre => pre <+: ds) (fun pre d => pre ++ [d] <+: ds) w := by
  intro l J Jx W hW hJ hJx hY h0
  have hM := h.same hW
  have hB := hbs.same hW
  have cB : W.cell? ⟨Bs, 0, none⟩ = some (.pointer (some ⟨b, 0, none⟩)) := hB.cell (j := 0) rfl
  have gb : W.cell? ⟨b, 0, none⟩ = some (.map (some mb)) := hM.ob.cell (j := 0) rfl
  have cMd := Lib.hid (made_calls b mb W gb)
  obtain ⟨m, hm, hR⟩ := hM.map
  have hlen := hM.len
  have hml := hR.length
  have cK := Lib.hid (KsR.keys_calls (some mb) W)
  have cS := KsR.sorted_calls mb m W hm keyedI (by omega)
  rw [hR.keys] at cS
  have CS := Lib.hid cS
  have HM := Lib.hid hM
  have HB := Lib.hid hB
  have hws := hW.size
  clear cS hm hR hml
  refine callsIn_of_wp Tryz.func85 rfl trivial ?_ rfl
  simp only [Tryz.ntmps85, List.size_toArray, List.length_cons, List.length_nil, Nat.reduceAdd, Nat.reduceSub, Array.replicate_succ, Array.replicate_zero, List.push_toArray, List.append_toArray, List.nil_append, List.cons_append]
  gi_wp2_with (first
    | (refine ⟨trivial, ?_⟩; gi_at_call 43; refine (callsIn_wide.2 cMd.out).mono ?_; rintro e W' ⟨rfl, rfl⟩)
    | (refine ⟨trivial, ?_⟩; gi_at_call 81; refine (callsIn_wide.2 (callsIn_wide.1 cK.out)).mono ?_; rintro e W' ⟨rfl, rfl⟩)
    | (refine ⟨trivial, ?_⟩; gi_at_call 80; refine (callsIn_wide.2 (callsIn_wide.1 CS.out)).mono ?_; rintro e W1 ⟨kv, rfl, hkv, hb1⟩; obtain ⟨Ak, ck, rfl, -⟩ := (IntsAt.of_own hkv).form))
  have hal := (Below.refl W.heap.size W).alloc (Nat.le_refl _) (.cells #[.map (some mb)] 78)
  have hb01 : Below W.heap.size W W1 := hal.trans (hb1.mono hal.size)
  have hs01 := hb01.size
  have hJ1 : J [] W1 := hJ _ _ _ none h0 (only_of_below hb01 none) (fun r e => by cases e)
  have hM1 := HM.out.same hb01
  have hB1 := HB.out.same hb01
  have hK1 : IntsAt W1 W.heap.size W1.heap.size (.slice Ak ds.length ck) (ds.map (·.od)) := by
    have := (IntsAt.of_own hkv).wide (lo' := W.heap.size) (by simp) (Nat.le_refl _)
    rwa [List.length_map] at this
  have HXL := Lib.hid HM.out.xl
  clear hkv hal hb1 cK CS cMd cB gb
  gi_loopw [4, 15] (fun _ i wr => ∃ k : Nat, k ≤ ds.length ∧ i = .int .i64 k ∧ J (ds.take k) wr ∧ PcAt wr base b mb X ds ∧ Ob wr Bs 23 #[.pointer (some ⟨b, 0, none⟩)] ∧ IntsAt wr W.heap.size W1.heap.size (.slice Ak ds.length ck) (ds.map (·.od)) ∧ W1.heap.size ≤ wr.heap.size) (fun _ i _ => ds.length - (intOf i).toNat)
  case atStart => exact ⟨0, by omega, rfl, hJ1, hM1, hB1, hK1, Nat.le_refl _⟩
  case round =>
    obtain ⟨k, hk, rfl, hJr, hMr, hBr, hKr, hsr⟩ := hrel
    clear hJ1 hM1 hB1 hK1
    by_cases hlt : k < ds.length
    · obtain ⟨kb, ko, hA, hk1, hk2, hck⟩ := hKr.cellAt (j := k) (by simpa using hlt)
      have hget : (ds.map (·.od)).getD k 0 = ds[k].od := by simp [hlt]
      rw [hget] at hck
      have hd : decide (k < ds.length) = true := by simpa using hlt
      have hfind := findR_sorted hMr.sorted k hlt
      have hok := hMr.ok ds[k] (List.getElem_mem hlt)
      have cB : wr.cell? ⟨Bs, 0, none⟩ = some (.pointer (some ⟨b, 0, none⟩)) := hBr.cell (j := 0) rfl
      have gb : wr.cell? ⟨b, 0, none⟩ = some (.map (some mb)) := hMr.ob.cell (j := 0) rfl
      obtain ⟨m, hm, hR⟩ := hMr.map
      obtain ⟨val, hg, v1, v2, v3, ev, i1, i2, i3⟩ := hR.some hfind
      have hlk := hm.look (tm := 78) keyedI Tryz.underlying78 (zeroR _) (keyI (k := ds[k].od) (by have := hok.od; omega) (by have := hok.od; omega))
      rw [hg, Option.getD_some, ev] at hlk
      simp only [rowV] at hlk
      have cC := copied_calls ds[k].od ds[k].wa ds[k].sh ds[k].ba v1 v2 v3 wr i1.items i2.items i3.items (by have := hok.wa.len; omega) (by have := hok.sh.len; omega) (by have := hok.ba.len; omega)
      obtain ⟨A1, c1, rfl, -⟩ := i1.items.form
      obtain ⟨A2, c2, rfl, -⟩ := i2.items.form
      obtain ⟨A3, c3, rfl, -⟩ := i3.items.form
      have hlen3 : ds.take k ++ [ds[k]] <+: ds := by
        rw [← List.take_succ_eq_append_getElem hlt]
        exact List.take_prefix _ _
      have HTk := Lib.hid (show ds.take (k + 1) = ds.take k ++ [ds[k]] from List.take_succ_eq_append_getElem hlt)
      simp only [pclV] at cC
      have CC := Lib.hid cC
      have HMr := Lib.hid hMr
      have HBr := Lib.hid hBr
      have HKr := Lib.hid hKr
      have HJr := Lib.hid hJr
      clear cC hfind hMr hBr hKr hJr hget hok hm hR hg ev i1 i2 i3
      generalize ds[k] = d at *
      obtain ⟨od, wa, sh, ba, fr, fb⟩ := d
      subst hA
      dsimp only at hck CC hlk
      have hlw : w.heap.size ≤ wr.heap.size := by omega
      have hfd := fieldP (.int .i64 od) (.slice A1 wa.length c1) (.slice A2 sh.length c2) (.slice A3 ba.length c3) (.map (some fb)) wr
      have HY := Lib.hid (fun W1 v (h1 : J (ds.take k) W1) h3 => hY (ds.take k) ⟨od, wa, sh, ba, fr, fb⟩ v W1 h1 hlen3 h3)
      gi_wp2_with (refine ⟨trivial, ?_⟩; gi_at_call 52; refine (callsIn_wide.2 CC.out).mono ?_; rintro e W2 ⟨⟨u1, u2, u3, rfl, o1, o2, o3⟩, hb3⟩; obtain ⟨B1, d1, rfl, -⟩ := (ItemsAt.of_own o1).form; obtain ⟨B2, d2, rfl, -⟩ := (ItemsAt.of_own o2).form; obtain ⟨B3, d3, rfl, -⟩ := (ItemsAt.of_own o3).form)
      have hJ3 := hJ _ _ _ none HJr.out (only_of_below hb3 none) (fun r e => by cases e)
      have hR3 : RdP w.heap.size ⟨od, wa, sh, ba, fr, fb⟩ (pclV od (.slice B1 wa.length d1) (.slice B2 sh.length d2) (.slice B3 ba.length d3)) W2 := ⟨_, _, _, rfl, (ItemsAt.of_own o1).wide hlw (Nat.le_refl _), (ItemsAt.of_own o2).wide hlw (Nat.le_refl _), (ItemsAt.of_own o3).wide hlw (Nat.le_refl _)⟩
      obtain ⟨fn, tmps, assign, body, hy, hR⟩ := HY.out _ _ hJ3 hR3
      dsimp only [pclV] at hy
      rw [show Sem.run _ _ _ = _ from hy]
      gi_wp2
      refine hR.mono ?_
      have hM3 := HMr.out.same hb3
      have hB3 := HBr.out.same hb3
      have hK3 := Sl.below HKr.out (hb3.mono hsr)
      have hs3 := hb3.size
      clear hJ3 hR3 o1 o2 o3 hlk cB gb hfd
      rintro e W4 (⟨rfl, hJ4, hk4⟩ | ⟨rfl, hJx4⟩)
      · rw [← HTk.out] at hJ4
        gi_wp2
        go_roundw
        case rel => exact ⟨k + 1, by omega, by go_num, hJ4, hM3.kpx hk4, hk4.ob hB3 hxs, hk4.sl hK3 (fun i h1 h2 hx => by have := HXL.out i hx; omega), by have := hk4.size; omega⟩
        case measure => simp [intOf]; omega
      · rw [← HTk.out] at hJx4
        gi_wp2
        refine bodyPost_ret (results_none rfl _ _ _) rfl ?_
        exact ⟨⟨_, rfl⟩, .inr ⟨_, List.take_prefix _ _, hJx4⟩⟩
    · obtain rfl : k = ds.length := by omega
      have hd : decide (ds.length < ds.length) = false := by simp
      rw [List.take_length] at hJr
      gi_wp2
      go_end0
      exact ⟨⟨_, rfl⟩, .inl ⟨_, rfl, hJr⟩⟩
end Pc
end Go.Proofs.YtdbkkldgobkjcaaGreat

namespace Go.Proofs.YtdbkkldgobkjcaaGreat
open Go.RowKit Go.Maps
namespace Pc
open It Mv
attribute [local go_sem] Oper.semAt_some

theorem open_nil (od : Int) (lv : Value) (w : World) :
    Calls Tryz.prog 9 #[.pointer none, .int .i64 od, lv] w fun e w' => e = .returned (.int .i64 6) ∧ w = w' := by
  have cM := Lib.hid (made_nil w)
  go_enter Tryz.func9, Tryz.ntmps9
  go_wp2_with (go_at_call 43; refine cM.out.mono ?_; rintro e W ⟨rfl, rfl⟩)
  go_ret
  exact ⟨rfl, rfl⟩
theorem len_nil (w : World) :
    Calls Tryz.prog 42 #[.pointer none] w fun e w' => e = .returned (.int .i64 0) ∧ w = w' := by
  have cM := Lib.hid (made_nil w)
  go_enter Tryz.func42, Tryz.ntmps42
  go_wp2_with (go_at_call 43; refine cM.out.mono ?_; rintro e W ⟨rfl, rfl⟩)
  go_ret
  exact ⟨rfl, rfl⟩
set_option maxRecDepth 100000 in
set_option maxHeartbeats 2000000 in
theorem row_nil (od : Int) (lv : Value) (w : World) :
    Calls Tryz.prog 47 #[.pointer none, .int .i64 od, lv] w fun e w' => e = .returned (.tuple #[zrow, .int .i64 6]) ∧ Below w.heap.size w w' := by
  have cM := Lib.hid (made_nil (w.alloc (.cells #[.int .i64 0, .slice none 0 0, .slice none 0 0, .slice none 0 0, .map none] 87)))
  have hO := Ob.new w 87 #[.int .i64 0, .slice none 0 0, .slice none 0 0, .slice none 0 0, .map none]
  have hal := (Below.refl w.heap.size w).alloc (Nat.le_refl _) (.cells #[.int .i64 0, .slice none 0 0, .slice none 0 0, .slice none 0 0, .map none] 87)
  obtain ⟨q0, q1, q2, q3, q4⟩ := hO.five
  obtain ⟨f0, f1, f2, f3, f4⟩ := hO.free5
  go_enter Tryz.func47, Tryz.ntmps47
  go_wp2_with (go_at_call 43; refine cM.out.mono ?_; rintro e W ⟨rfl, rfl⟩)
  refine bodyPost_ret (v := .tuple #[zrow, .int .i64 6]) ?_ rfl ⟨rfl, hal⟩
  simp [results, Tryz.f47, go_sem, q0, q1, q2, q3, q4, zrow]
theorem ship_nil (od r : Int) (lv : Value) (w : World) :
    Calls Tryz.prog 11 #[.pointer none, .int .i64 od, .int .i64 r, lv] w fun e w' => e = .returned (.int .i64 6) ∧ Below w.heap.size w w' := by
  have cM := Lib.hid (made_nil w)
  have cR := row_nil od lv w
  simp only [zrow] at cR
  have CR := Lib.hid cR
  clear cR
  go_enter Tryz.func11, Tryz.ntmps11
  go_wp2_with (go_at_call 43; refine cM.out.mono ?_; rintro e W ⟨rfl, rfl⟩)
  refine CR.out.mono ?_
  rintro e W ⟨rfl, hb⟩
  go_wp2
  go_ret
  exact ⟨rfl, hb.alloc hb.size _⟩
theorem back_nil (od : Int) (lv : Value) (w : World) :
    Calls Tryz.prog 13 #[.pointer none, .int .i64 od, lv] w fun e w' => e = .returned (.int .i64 6) ∧ Below w.heap.size w w' := by
  have cR := row_nil od lv w
  simp only [zrow] at cR
  have CR := Lib.hid cR
  clear cR
  go_enter Tryz.func13, Tryz.ntmps13
  go_wp2_with fail
  refine CR.out.mono ?_
  rintro e W ⟨rfl, hb⟩
  go_wp2
  go_ret
  exact ⟨rfl, hb.alloc hb.size _⟩
theorem undo_nil (od : Int) (lv : Value) (w : World) :
    Calls Tryz.prog 15 #[.pointer none, .int .i64 od, lv] w fun e w' => e = .returned (.int .i64 6) ∧ Below w.heap.size w w' := by
  have cR := row_nil od lv w
  simp only [zrow] at cR
  have CR := Lib.hid cR
  clear cR
  go_enter Tryz.func15, Tryz.ntmps15
  go_wp2_with fail
  refine CR.out.mono ?_
  rintro e W ⟨rfl, hb⟩
  go_wp2
  go_ret
  exact ⟨rfl, hb.alloc hb.size _⟩
set_option maxRecDepth 100000 in
set_option maxHeartbeats 2000000 in
theorem parcel_nil (od : Int) (w : World) :
    Calls Tryz.prog 17 #[.pointer none, .int .i64 od] w fun e w' => e = .returned (.tuple #[pclV 0 (.slice none 0 0) (.slice none 0 0) (.slice none 0 0), .bool false]) ∧ Below w.heap.size w w' := by
  have hal := (Below.refl w.heap.size w).alloc (Nat.le_refl _) (.cells #[.int .i64 0, .slice none 0 0, .slice none 0 0, .slice none 0 0] 39)
  have hO1 := Ob.new w 39 #[.int .i64 0, .slice none 0 0, .slice none 0 0, .slice none 0 0]
  have cR := row_nil od (.slice none 0 0) (w.alloc (.cells #[.int .i64 0, .slice none 0 0, .slice none 0 0, .slice none 0 0] 39))
  simp only [zrow] at cR
  have CR := Lib.hid cR
  clear cR
  dsimp only [pclV]
  go_enter Tryz.func17, Tryz.ntmps17
  go_wp2_with fail
  refine CR.out.mono ?_
  rintro e W ⟨rfl, hb1⟩
  replace hO1 := hO1.same hb1
  have hB := hal.trans (hb1.mono hal.size)
  obtain ⟨q0, q1, q2, q3⟩ := (hO1.alloc (.cells #[.int .i64 0, .slice none 0 0, .slice none 0 0, .slice none 0 0, .map none] 87)).four
  obtain ⟨f0, f1, f2, f3⟩ := (hO1.alloc (.cells #[.int .i64 0, .slice none 0 0, .slice none 0 0, .slice none 0 0, .map none] 87)).free4
  go_wp2
  have hO2 := (hO1.alloc (.cells #[.int .i64 0, .slice none 0 0, .slice none 0 0, .slice none 0 0, .map none] 87)).set4 (.int .i64 0) (.slice none 0 0) (.slice none 0 0) (.slice none 0 0)
  obtain ⟨p0, p1, p2, p3⟩ := hO2.four
  have hB2 := (hB.alloc hB.size (.cells #[.int .i64 0, .slice none 0 0, .slice none 0 0, .slice none 0 0, .map none] 87)).grown (grown_set4 _ w.heap.size (.int .i64 0) (.slice none 0 0) (.slice none 0 0) (.slice none 0 0)) (by have := hB.size; simp; omega) (fun g e => by have := Option.some.inj e; omega)
  refine bodyPost_ret (v := .tuple #[.agg #[.int .i64 0, .slice none 0 0, .slice none 0 0, .slice none 0 0], .bool false]) ?_ rfl ⟨rfl, hB2⟩
  simp [results, Tryz.f17, go_sem, p0, p1, p2, p3]
theorem left_nil (od : Int) (w : World) :
    Calls Tryz.prog 22 #[.pointer none, .int .i64 od] w fun e w' => (∃ v, e = .returned v ∧ w'.ownsRow w.heap.size 37 2 v 0 []) ∧ Below w.heap.size w w' := by
  have cP := Lib.hid (parcel_nil od w)
  have h0 : Fits [] := fun x hx => by cases hx
  go_enter Tryz.func22, Tryz.ntmps22
  go_wp2_with fail
  refine cP.out.mono ?_
  rintro e W ⟨rfl, hb1⟩
  dsimp only [pclV]
  have hal := (Below.refl W.heap.size W).alloc (Nat.le_refl _) (.cells #[.int .i64 0, .slice none 0 0, .slice none 0 0, .slice none 0 0] 39)
  have cR := Lib.hid (rest_calls [] [] (.slice none 0 0) (.slice none 0 0) (W.alloc (.cells #[.int .i64 0, .slice none 0 0, .slice none 0 0, .slice none 0 0] 39)) (ItemsAt.nil _ _ _) (ItemsAt.nil _ _ _) h0 h0)
  have hB := hb1.trans (hal.mono hb1.size)
  clear cP
  go_wp2_with fail
  refine cR.out.mono ?_
  rintro e W2 ⟨⟨v, rfl, hv⟩, hb2⟩
  go_wp2
  go_ret
  have e0 : both restF [] [] = [] := by decide +kernel
  rw [e0] at hv
  exact ⟨⟨_, rfl, ownsRow_wide hv hB.size⟩, hB.trans (hb2.mono hB.size)⟩

theorem all_nil (n : Nat) (hn : 1 ≤ n) (Bs : Nat) (w : World) (hbs : Ob w Bs 23 #[.pointer none]) :
    Rr.Reads Fence.wide n Tryz.prog 85 #[.pointer (some ⟨Bs, 0, none⟩)] (fun (_ : Unit) (_ : Value) (_ : World) => True) (Below w.heap.size) (fun xs => xs = []) (fun _ => False) (fun _ _ => False) w := by
  intro l J Jx W hW hJ hJx hY h0
  have hB := hbs.same hW
  have cB : W.cell? ⟨Bs, 0, none⟩ = some (.pointer none) := hB.cell (j := 0) rfl
  have cM := Lib.hid (made_nil W)
  refine callsIn_of_wp Tryz.func85 rfl trivial ?_ rfl
  simp only [Tryz.ntmps85, List.size_toArray, List.length_cons, List.length_nil, Nat.reduceAdd, Nat.reduceSub, Array.replicate_succ, Array.replicate_zero, List.push_toArray, List.append_toArray, List.nil_append, List.cons_append]
  clear hY
  gi_wp2_with (refine ⟨trivial, ?_⟩; gi_at_call 43; refine (callsIn_wide.2 cM.out).mono ?_; rintro e W' ⟨rfl, rfl⟩)
  refine bodyPost_ret (results_none rfl _ _ _) rfl ?_
  exact ⟨⟨_, rfl⟩, .inl ⟨_, rfl, h0⟩⟩

/-- a parcel, as it is asked for -/
structure Pcl where
  od : Int
  wa : List It.Item
  sh : List It.Item
  ba : List It.Item
def sameP (a b : Pcl) : Bool := decide (a.od = b.od) && decide (a.wa = b.wa) && decide (a.sh = b.sh) && decide (a.ba = b.ba)
theorem sameP_iff (a b : Pcl) : sameP a b = true ↔ a = b := by
  obtain ⟨a1, a2, a3, a4⟩ := a
  obtain ⟨b1, b2, b3, b4⟩ := b
  simp [sameP, and_assoc]

set_option maxRecDepth 100000 in
set_option maxHeartbeats 4000000 in
theorem sameP_calls (a b : Pcl) (a1 a2 a3 b1 b2 b3 : Value) (w : World) (ha1 : ItemsAt w 0 w.heap.size a1 a.wa) (ha2 : ItemsAt w 0 w.heap.size a2 a.sh) (ha3 : ItemsAt w 0 w.heap.size a3 a.ba) (hb1 : ItemsAt w 0 w.heap.size b1 b.wa) (hb2 : ItemsAt w 0 w.heap.size b2 b.sh) (hb3 : ItemsAt w 0 w.heap.size b3 b.ba) :
    Calls Tryz.prog 19 #[pclV a.od a1 a2 a3, pclV b.od b1 b2 b3] w fun e w' => e = .returned (.bool (sameP a b)) ∧ Below w.heap.size w w' := by
  have cS1 := Lib.hid (fun W (h : Below w.heap.size w W) => refsame_calls a.wa b.wa _ _ W (ha1.mono h h.size) (hb1.mono h h.size))
  have cS2 := Lib.hid (fun W (h : Below w.heap.size w W) => refsame_calls a.sh b.sh _ _ W (ha2.mono h h.size) (hb2.mono h h.size))
  have cS3 := Lib.hid (fun W (h : Below w.heap.size w W) => refsame_calls a.ba b.ba _ _ W (ha3.mono h h.size) (hb3.mono h h.size))
  obtain ⟨A1, c1, rfl, -⟩ := ha1.form
  obtain ⟨A2, c2, rfl, -⟩ := ha2.form
  obtain ⟨A3, c3, rfl, -⟩ := ha3.form
  obtain ⟨B1, d1, rfl, -⟩ := hb1.form
  obtain ⟨B2, d2, rfl, -⟩ := hb2.form
  obtain ⟨B3, d3, rfl, -⟩ := hb3.form
  have HSm := Lib.hid (show sameP a b = (decide (a.od = b.od) && decide (a.wa = b.wa) && decide (a.sh = b.sh) && decide (a.ba = b.ba)) from rfl)
  generalize sameP a b = S at *
  generalize decide (a.wa = b.wa) = s1 at *
  generalize decide (a.sh = b.sh) = s2 at *
  generalize decide (a.ba = b.ba) = s3 at *
  generalize a.wa.length = n1 at *
  generalize b.wa.length = m1 at *
  generalize a.sh.length = n2 at *
  generalize b.sh.length = m2 at *
  generalize a.ba.length = n3 at *
  generalize b.ba.length = m3 at *
  generalize a.od = ao at *
  generalize b.od = bo at *
  dsimp only [pclV]
  clear ha1 ha2 ha3 hb1 hb2 hb3
  have hb0 := (Below.refl w.heap.size w).alloc (Nat.le_refl _) (.cells #[.int .i64 ao, .slice A1 n1 c1, .slice A2 n2 c2, .slice A3 n3 c3] 39)
  have hB0 := hb0.alloc hb0.size (.cells #[.int .i64 bo, .slice B1 m1 d1, .slice B2 m2 d2, .slice B3 m3 d3] 39)
  have hO1 := (Ob.new w 39 #[.int .i64 ao, .slice A1 n1 c1, .slice A2 n2 c2, .slice A3 n3 c3]).alloc (.cells #[.int .i64 bo, .slice B1 m1 d1, .slice B2 m2 d2, .slice B3 m3 d3] 39)
  have hO2 := Ob.new (w.alloc (.cells #[.int .i64 ao, .slice A1 n1 c1, .slice A2 n2 c2, .slice A3 n3 c3] 39)) 39 #[.int .i64 bo, .slice B1 m1 d1, .slice B2 m2 d2, .slice B3 m3 d3]
  simp only [World.size_alloc] at hO2
  have CS1 := Lib.hid (cS1.out _ hB0)
  clear hb0
  by_cases e1 : ao = bo
  case neg =>
    have q1 : (ao == bo) = false := by simpa using e1
    obtain rfl : S = false := by rw [HSm.out]; simp [e1]
    clear hO1 hO2
    go_enter Tryz.func19, Tryz.ntmps19
    go_wp2
    go_ret
    exact ⟨rfl, hB0⟩
  case pos =>
  subst e1
  have HS2 := Lib.hid (show S = (s1 && s2 && s3) by rw [HSm.out]; simp)
  clear HSm
  cases s1 with
  | false =>
    obtain rfl : S = false := by rw [HS2.out]; simp
    clear hO1 hO2
    go_enter Tryz.func19, Tryz.ntmps19
    go_wp2_with (go_at_call 21; refine CS1.out.mono ?_; rintro e W ⟨rfl, hb1⟩)
    go_ret
    exact ⟨rfl, hB0.trans (hb1.mono hB0.size)⟩
  | true =>
    go_enter Tryz.func19, Tryz.ntmps19
    go_wp2_with fail
    refine CS1.out.mono ?_
    rintro e W ⟨rfl, hb1⟩
    have hB1 := hB0.trans (hb1.mono hB0.size)
    replace hO1 := hO1.same hb1
    replace hO2 := hO2.same hb1
    have CS2 := Lib.hid (cS2.out _ hB1)
    clear CS1 hb1
    obtain ⟨q0, q1, q2, q3⟩ := hO1.four
    obtain ⟨p0, p1, p2, p3⟩ := hO2.four
    cases s2 with
    | false =>
      obtain rfl : S = false := by rw [HS2.out]; simp
      go_wp2_with (go_at_call 21; refine CS2.out.mono ?_; rintro e W2 ⟨rfl, hb1⟩)
      go_ret
      exact ⟨rfl, hB1.trans (hb1.mono hB1.size)⟩
    | true =>
      go_wp2_with fail
      refine CS2.out.mono ?_
      rintro e W2 ⟨rfl, hb1⟩
      have hB2 := hB1.trans (hb1.mono hB1.size)
      replace hO1 := hO1.same hb1
      replace hO2 := hO2.same hb1
      have CS3 := Lib.hid (cS3.out _ hB2)
      clear CS2 hb1 q0 q1 q2 q3 p0 p1 p2 p3
      obtain ⟨q0, q1, q2, q3⟩ := hO1.four
      obtain ⟨p0, p1, p2, p3⟩ := hO2.four
      obtain rfl : S = s3 := by rw [HS2.out]; simp
      go_wp2_with fail
      refine CS3.out.mono ?_
      rintro e W3 ⟨rfl, hb1⟩
      go_wp2
      go_ret
      exact ⟨rfl, hB2.trans (hb1.mono hB2.size)⟩
end Pc
end Go.Proofs.YtdbkkldgobkjcaaGreat

namespace Go.Proofs.YtdbkkldgobkjcaaGreat
open Go.RowKit Go.Maps
namespace Pc
open It Mv
attribute [local go_sem] Oper.semAt_some

set_option maxRecDepth 100000 in
set_option maxHeartbeats 8000000 in
theorem walksP_calls (pb b mb xb base : Nat) (X Y : Nat → Prop) (ds : List Row) (es : List DR) (w : World) (h : PcAt w pb b mb X ds) (hdoc : DocP w xb base Y es) (he : es.map (·.d) = ds) :
    Calls Tryz.prog 20 #[.pointer (some ⟨b, 0, none⟩), .pointer (some ⟨xb, 0, none⟩)] w fun e w' => e = .returned (.bool true) ∧ Below w.heap.size w w' := by
  have hen := eql_nilP
  have hlen : es.length = ds.length := by rw [← he]; simp
  have hds40 := h.len
  obtain ⟨v, hx, hv, -⟩ := hdoc.ob
  have HNEST := Lib.hid hdoc.nest
  obtain ⟨A, c, rfl, hc1, hc2, -⟩ := (Sl.of_own hv).at_
  unfold maxLen at hc2
  refine (callsIn_wide (n := 6)).1 ?_
  refine callsIn_of_wp_marks Tryz.func20 rfl trivial ?_ rfl
  simp only [Tryz.ntmps20, List.size_toArray, List.length_cons, List.length_nil, Nat.reduceAdd, Nat.reduceSub, Array.replicate_succ, Array.replicate_zero, List.push_toArray, List.append_toArray, List.nil_append, List.cons_append]
  gi_wp2_with (refine ⟨trivial, ?_⟩; gi_at_call 41; refine (callsIn_wide.2 (all_calls _ _)).mono ?_; rintro e w' ⟨rfl, rfl⟩)
  have a1 := Below.refl w.heap.size w
  have b0 := Ob.new w 25 #[.pointer (some ⟨xb, 0, none⟩)]
  have a2 := a1.alloc (Nat.le_refl _) (.cells #[.pointer (some ⟨xb, 0, none⟩)] 25)
  have b1 := Ob.new (w.alloc (.cells #[.pointer (some ⟨xb, 0, none⟩)] 25)) 4 #[.bool false]
  have a3 := a2.alloc (by simp) (.cells #[.bool false] 4)
  have b2 := Ob.new ((w.alloc (.cells #[.pointer (some ⟨xb, 0, none⟩)] 25)).alloc (.cells #[.bool false] 4)) 23 #[.pointer (some ⟨b, 0, none⟩)]
  have hB3 := a3.alloc (by simp; omega) (.cells #[.pointer (some ⟨b, 0, none⟩)] 23)
  replace b0 := (b0.alloc (.cells #[.bool false] 4)).alloc (.cells #[.pointer (some ⟨b, 0, none⟩)] 23)
  replace b1 := b1.alloc (.cells #[.pointer (some ⟨b, 0, none⟩)] 23)
  simp only [World.size_alloc] at b1 b2
  have hsz3 : (((w.alloc (.cells #[.pointer (some ⟨xb, 0, none⟩)] 25)).alloc (.cells #[.bool false] 4)).alloc (.cells #[.pointer (some ⟨b, 0, none⟩)] 23)).heap.size = w.heap.size + 3 := by simp
  generalize (((w.alloc (.cells #[.pointer (some ⟨xb, 0, none⟩)] 25)).alloc (.cells #[.bool false] 4)).alloc (.cells #[.pointer (some ⟨b, 0, none⟩)] 23)) = w3 at *
  have HSZ3 := Lib.hid hsz3
  have hdr := hB3.drew
  have hM4 := h.same hdr
  have d0 : w3.drew.cell? ⟨w.heap.size, 0, none⟩ = some (.pointer (some ⟨xb, 0, none⟩)) := b0.cell (j := 0) rfl
  have x0 : w3.drew.cell? ⟨xb, 0, none⟩ = some (.slice A es.length c) := (hx.same hdr).cell (j := 0) rfl
  have cL := Lib.hid (len_calls pb b mb X ds w3.drew hM4)
  have hneq : ((ds.length : Int) != (es.length : Int)) = false := by rw [hlen]; simp
  have HLEN := Lib.hid hlen
  have HM4 := Lib.hid hM4
  have HX := Lib.hid hx
  have HV := Lib.hid hv
  have HDOC := Lib.hid hdoc
  have HB3 := Lib.hid hB3
  have H := Lib.hid h
  have HE := Lib.hid he
  clear a1 a2 a3 hsz3 hM4 hB3 hv hx hdoc hdr h he hlen
  refine wpIn_wide.2 ?_
  refine Pu.regionW (fun V => V = w3.drew) hmx (by kernel_rfl) (by kernel_rfl) rfl rfl ?_
  iterate 12 (first
    | (refine Pu.Walk.off (by rfl) ?_; simp only [Act.put, List.setIfInBounds_toArray, List.set_cons_succ, List.set_cons_zero])
    | (apply Pu.Walk.on (by rfl)
       · rintro V rfl
         go_wp2_with (go_at_call 42; refine cL.out.mono ?_; rintro e W' ⟨rfl, rfl⟩)
         refine ⟨rfl, ?_, rfl⟩
         try simp only [Act.put, List.setIfInBounds_toArray, List.set_cons_succ, List.set_cons_zero]
         rfl
       simp only [Act.put, List.setIfInBounds_toArray, List.set_cons_succ, List.set_cons_zero]))
  refine Pu.Walk.nil (fun V hV => ?_)
  rw [hV]
  clear hV V d0 x0 cL hneq hen
  gi_wp2
  have b4 : Ob (w3.alloc (.cells #[.int .i64 0] 3)).drew w3.heap.size 3 #[.int .i64 0] := Ob.new w3 3 #[.int .i64 0]
  have e0 : Ob ((w3.alloc (.cells #[.int .i64 0] 3)).drew) w.heap.size 25 #[.pointer (some ⟨xb, 0, none⟩)] := b0.alloc (.cells #[.int .i64 0] 3)
  have e1 : Ob ((w3.alloc (.cells #[.int .i64 0] 3)).drew) (w.heap.size + 1) 4 #[.bool false] := b1.alloc (.cells #[.int .i64 0] 3)
  have e2 : Ob ((w3.alloc (.cells #[.int .i64 0] 3)).drew) (w.heap.size + 1 + 1) 23 #[.pointer (some ⟨b, 0, none⟩)] := b2.alloc (.cells #[.int .i64 0] 3)
  have hB5 : Below w.heap.size w (w3.alloc (.cells #[.int .i64 0] 3)).drew := (HB3.out.alloc HB3.out.size (.cells #[.int .i64 0] 3)).drew
  rw [HSZ3.out] at b4
  have hM5 : PcAt ((w3.alloc (.cells #[.int .i64 0] 3)).drew) pb b mb (fun i => X i ∨ i = w.heap.size + 3) ds := H.out.more hB5 fun i hi => by
    have hs5 : ((w3.alloc (.cells #[.int .i64 0] 3)).drew).heap.size = w.heap.size + 4 := by show (w3.alloc (.cells #[.int .i64 0] 3)).heap.size = _; rw [World.size_alloc, HSZ3.out]
    rcases hi with hi | rfl
    · exact ⟨.inl hi, by have := H.out.xl i hi; omega⟩
    · exact ⟨.inr (by omega), by omega⟩
  have hs5 : ((w3.alloc (.cells #[.int .i64 0] 3)).drew).heap.size = w.heap.size + 4 := by show (w3.alloc (.cells #[.int .i64 0] 3)).heap.size = _; rw [World.size_alloc, HSZ3.out]
  clear b0 b1 b2
  generalize (w3.alloc (.cells #[.int .i64 0] 3)).drew = w5 at *
  obtain ⟨X5, hX5⟩ : ∃ X5 : Nat → Prop, X5 = fun i => X i ∨ i = w.heap.size + 3 := ⟨_, rfl⟩
  rw [← hX5] at hM5
  have hxs5 : ¬ X5 (w.heap.size + 1 + 1) := fun hi => by
    rw [hX5] at hi
    rcases hi with hi | hi
    · have := H.out.xl _ hi; omega
    · omega
  have hx3 : X5 (w.heap.size + 3) := by rw [hX5]; exact .inr rfl
  have HB5 := Lib.hid hB5
  clear hX5 hB5
  simp only [HSZ3.out]
  refine Rr.range_reads (n := 6) rfl (by omega) (gf := 85) rfl trivial (enters_of Tryz.func85 (by kernel_rfl) rfl)
    (allP_reads 5 (by omega) pb b mb (w.heap.size + 1 + 1) X5 ds w5 hM5 e2 hxs5) (Below.refl _ _) (fun h k => h.trans k) (fun W l r r' _ h => KpX.loop h) rfl
    (fun pre W => Ob W w.heap.size 25 #[.pointer (some ⟨xb, 0, none⟩)] ∧ Ob W (w.heap.size + 1) 4 #[.bool false] ∧ Ob W (w.heap.size + 3) 3 #[.int .i64 pre.length] ∧ Below w.heap.size w5 W)
    (fun c pre W => False)
    (fun s A B row hs hg hr => ⟨ob_keep hs.1 hg (fun r e => (hr r e).2), ob_keep hs.2.1 hg (fun r e => (hr r e).2), ob_keep hs.2.2.1 hg (fun r e => (hr r e).2), ownFrom_below (B := w5.heap.size) (by omega) (by omega) s A B row hs.2.2.2 hg hr⟩)
    (fun c s A B row hs hg hr => hs.elim)
    ⟨e0, e1, b4, Below.refl _ _⟩ ?round ?done ?stop
  case stop => exact fun D c pre W _ _ h _ => h.elim
  case round =>
    rintro l pre ⟨od, wa, sh, ba, fr, fb⟩ v W hl ⟨hb0, hb1, hb2, hB⟩ hpre ⟨u1, u2, u3, rfl, s1, s2, s3⟩
    obtain ⟨A1, k1, rfl, -⟩ := s1.form
    obtain ⟨A2, k2, rfl, -⟩ := s2.form
    obtain ⟨A3, k3, rfl, -⟩ := s3.form
    dsimp only [pclV]
    have hn0 : pre.length < ds.length ∧ ds[pre.length]? = some ⟨od, wa, sh, ba, fr, fb⟩ := by
      obtain ⟨r, hr⟩ := hpre
      rw [← hr]
      simp
    have hn : pre.length < es.length := by rw [HLEN.out]; exact hn0.1
    have hdn : es[pre.length].d = ⟨od, wa, sh, ba, fr, fb⟩ := by
      have h1 := hn0.2
      rw [← HE.out, List.getElem?_map, List.getElem?_eq_getElem hn] at h1
      simpa using h1
    have HN0 := Lib.hid hn0
    clear hn0 hpre
    gi_wp2
    have g1 := World.grownBy_alloc W (.cells #[.int .i64 od, .slice A1 wa.length k1, .slice A2 sh.length k2, .slice A3 ba.length k3] 39) none
    refine ⟨keeps_below _ ((Below.refl _ W).alloc (Nat.le_refl _) _), KpX.of_grown g1 (fun g e => by cases e), fun W2 hg2 o2 ho21 ho22 => ?_⟩
    have ho2 : ∃ o : Obj, (W.alloc (.cells #[.int .i64 od, .slice A1 wa.length k1, .slice A2 sh.length k2, .slice A3 ba.length k3] 39)).heap[l]? = some o ∧ o.isCells = false := ⟨o2, ho21, ho22⟩
    have hb8 := ob_keep (Ob.new W 39 #[.int .i64 od, .slice A1 wa.length k1, .slice A2 sh.length k2, .slice A3 ba.length k3]) hg2 (fun r e => by cases e; exact ho2)
    replace hb0 := ob_keep (hb0.alloc _) hg2 (fun r e => by cases e; exact ho2)
    replace hb1 := ob_keep (hb1.alloc _) hg2 (fun r e => by cases e; exact ho2)
    replace hb2 := ob_keep (hb2.alloc _) hg2 (fun r e => by cases e; exact ho2)
    replace hB : Below w.heap.size w5 W2 := (hB.alloc (by have := hB.size; omega) (.cells #[.int .i64 od, .slice A1 wa.length k1, .slice A2 sh.length k2, .slice A3 ba.length k3] 39)).grown hg2 (by have := hB.size; simp; omega) (fun k e => by cases e; omega)
    have hsl : ∀ {A k l'}, ItemsAt W w5.heap.size W.heap.size (.slice A l'.length k) l' → ItemsAt W2 0 W2.heap.size (.slice A l'.length k) l' := fun hsv => (sl_keep (Sl.below hsv ((Below.refl _ W).alloc (Nat.le_refl _) (.cells #[.int .i64 od, .slice A1 wa.length k1, .slice A2 sh.length k2, .slice A3 ba.length k3] 39))) hg2 (fun r e => by cases e; exact ho2) (by simp)).wide (Nat.zero_le _) (by have := hg2.size; simp at this; omega)
    have hW2l : W.heap.size < W2.heap.size := by have := hg2.size; simp at this; omega
    have hbw := HB5.out.trans hB
    obtain ⟨bo, o, rfl, -, hbo, hcs⟩ := docP_cell (Sl.below (Sl.of_own HV.out) hbw) hn
    have c0 := hcs 0 _ rfl
    have c1 := hcs 1 _ rfl
    have c2 := hcs 2 _ rfl
    have c3 := hcs 3 _ rfl
    simp only [Nat.add_zero] at c0
    clear hcs
    have hbo2 : bo < W2.heap.size := by have := hbw.size; omega
    have hnest := HNEST.out es[pre.length] (List.getElem_mem hn)
    generalize es[pre.length] = pp at *
    obtain ⟨dd, v1, v2, v3⟩ := pp
    dsimp only at hdn hnest c0 c1 c2 c3
    subst hdn
    dsimp only at hnest c0 c1 c2 c3
    obtain ⟨n1, n2, n3⟩ := hnest
    have hxW := HX.out.same hbw
    have hd : decide (es.length ≤ pre.length) = false := by simp; omega
    have hdr := (Below.refl W2.heap.size W2).drew
    have cS := sameP_calls ⟨od, wa, sh, ba⟩ ⟨od, wa, sh, ba⟩ (.slice A1 wa.length k1) (.slice A2 sh.length k2) (.slice A3 ba.length k3) v1 v2 v3 W2.drew ((hsl s1).mono hdr (Nat.le_refl _)) ((hsl s2).mono hdr (Nat.le_refl _)) ((hsl s3).mono hdr (Nat.le_refl _)) ((n1.items.mono hbw hbw.size).mono hdr (Nat.le_refl _)) ((n2.items.mono hbw hbw.size).mono hdr (Nat.le_refl _)) ((n3.items.mono hbw hbw.size).mono hdr (Nat.le_refl _))
    obtain ⟨B1, d1, rfl, -⟩ := n1.items.form
    obtain ⟨B2, d2, rfl, -⟩ := n2.items.form
    obtain ⟨B3, d3, rfl, -⟩ := n3.items.form
    rw [(sameP_iff _ _).2 rfl] at cS
    dsimp only [pclV] at cS
    have CS := Lib.hid cS
    have HBW := Lib.hid hB
    have l1 : (0 : Int) ≤ (pre.length : Int) := by omega
    have l2 : (pre.length : Int) < (es.length : Int) := by omega
    clear cS ho2 ho21 ho22 hsl n1 n2 n3 s1 s2 s3 g1 hbw hg2 hB hdr
    generalize hpl : pre.length = n at *
    have HPL := Lib.hid hpl
    clear hpl
    gi_wp2
    refine Pi.regionIn [(0, false), (1, false), (2, false), (3, false), (4, false), (5, false), (6, false), (7, false), (8, false), (9, false), (10, false), (11, false), (12, false), (13, false), (14, false), (15, false), (16, false), (17, true), (18, false), (19, false)]
      (fun V => Ob V w.heap.size 25 #[.pointer (some ⟨xb, 0, none⟩)] ∧ Ob V (w.heap.size + 3) 3 #[.int .i64 n] ∧ Ob V W.heap.size 39 #[.int .i64 od, .slice A1 wa.length k1, .slice A2 sh.length k2, .slice A3 ba.length k3] ∧ Ob V xb 28 #[.slice (some ⟨bo, o, none⟩) es.length c] ∧ W2.heap.size ≤ V.heap.size ∧ Below W2.heap.size W2 V)
      hmx (by kernel_rfl) (by kernel_rfl) (by kernel_rfl) (by kernel_rfl) ⟨hb0, hb2, hb8, hxW, Nat.le_refl _, (Below.refl _ W2).drew⟩ rfl ?_
    simp only [Pu.named, List.filterMap_cons, List.filterMap_nil, List.getElem?_toArray, List.getElem?_cons_succ, List.getElem?_cons_zero, Option.map_some]
    iterate 17 (apply Pu.WalkM.on (by rfl)
                · rintro V ⟨k0, k2, k8, kx, ks, kb⟩
                  have z0 := k0.cell (j := 0) (v := .pointer (some ⟨xb, 0, none⟩)) rfl
                  have z2 := k2.cell (j := 0) (v := .int .i64 n) rfl
                  have zx := kx.cell (j := 0) (v := .slice (some ⟨bo, o, none⟩) es.length c) rfl
                  obtain ⟨y0, y1, y2, y3⟩ := k8.four
                  have r0 := (kb.cell (p := ⟨bo, o + n * 12, none⟩) hbo2).trans c0
                  have r1 := (kb.cell (p := ⟨bo, o + n * 12 + 1, none⟩) hbo2).trans c1
                  have r2 := (kb.cell (p := ⟨bo, o + n * 12 + 2, none⟩) hbo2).trans c2
                  have r3 := (kb.cell (p := ⟨bo, o + n * 12 + 3, none⟩) hbo2).trans c3
                  go_wp2_with fail
                  refine ⟨rfl, ?_, rfl⟩
                  try simp only [Act.put, List.setIfInBounds_toArray, List.set_cons_succ, List.set_cons_zero]
                  rfl
                simp only [Act.put, List.setIfInBounds_toArray, List.set_cons_succ, List.set_cons_zero])
    refine Pu.WalkM.make (by rfl) ?_
    intro V hV
    rw [hV]
    clear hV V
    go_wp2_with (go_at_call 19; refine CS.out.mono ?_; rintro e W3 ⟨rfl, hb3⟩)
    have hb3' : Below W2.heap.size W2 W3 := (Below.refl _ W2).drew.trans hb3
    refine ⟨rfl, .bool true, _, (fun V => V = W3), ?_, rfl, (fun V h => by rw [h]; exact ⟨hb0.same hb3', hb2.same hb3', hb8.same hb3', hxW.same hb3', hb3'.size, hb3'⟩), (.inr (fun _ h => h)), ?_⟩
    · simp only [Act.put, List.setIfInBounds_toArray, List.set_cons_succ, List.set_cons_zero]
    simp only [Act.put, List.setIfInBounds_toArray, List.set_cons_succ, List.set_cons_zero]
    iterate 02 (apply Pu.WalkM.on (by rfl)
                · rintro V -
                  go_wp2_with fail
                  refine ⟨rfl, ?_, rfl⟩
                  try simp only [Act.put, List.setIfInBounds_toArray, List.set_cons_succ, List.set_cons_zero]
                  rfl
                simp only [Act.put, List.setIfInBounds_toArray, List.set_cons_succ, List.set_cons_zero])
    refine Pu.WalkM.nil ?_
    intro V hV
    rw [hV]
    clear hV V
    refine Pi.OnlyN.out ?_
    have z2 := (hb2.same hb3').cell (j := 0) (v := .int .i64 n) rfl
    have f2 := (hb2.same hb3').frozen 0
    have hl256 : (n : Int) < 1099511627776 := by have := HLEN.out; omega
    clear c0 c1 c2 c3 hd l1 l2
    gi_wp2
    have g3 := only_of_below hb3' none
    refine ⟨keeps_set (keeps_below _ hb3') _ _, (KpX.of_grown g3 (fun g e => by cases e)).trans (KpX.of_grown (grownBy_set W3 _ 0 _) (fun g e => by cases e; exact hx3)), ((hb0.same hb3').other (by omega) 0 _), ((hb1.same hb3').other (by omega) 0 _), ?_, ?_⟩
    · have := (hb2.same hb3').set 0 (.int .i64 ((n : Int) + 1))
      rw [List.length_append, HPL.out]
      exact this
    · exact (HBW.out.trans (hb3'.mono (by have := HBW.out.size; omega))).grown (grownBy_set W3 _ 0 _) (by have := HBW.out.size; have := hb3'.size; omega) (fun k e => by cases e; omega)
  case done =>
    rintro D xs W hD rfl ⟨hb0, hb1, hb2, hB⟩ hK
    gi_wp2
    have hbw := HB5.out.trans hB
    have hxW : Ob W.drew xb 28 #[.slice A es.length c] := HX.out.same hbw.drew
    have k0 : Ob W.drew w.heap.size 25 #[.pointer (some ⟨xb, 0, none⟩)] := hb0
    have k1 : Ob W.drew (w.heap.size + 1) 4 #[.bool false] := hb1
    have k2 : Ob W.drew (w.heap.size + 3) 3 #[.int .i64 xs.length] := hb2
    have hq : ((xs.length : Int) == (es.length : Int)) = true := by rw [HLEN.out]; simp
    have hBs := hB.size
    clear hb0 hb1 hb2
    refine wpIn_wide.2 ?_
    refine Pu.regionM [(0, false), (1, false), (2, false), (3, false), (4, false), (5, false), (6, false), (7, true)]
      (fun V => Ob V w.heap.size 25 #[.pointer (some ⟨xb, 0, none⟩)] ∧ Ob V (w.heap.size + 3) 3 #[.int .i64 xs.length] ∧ Ob V xb 28 #[.slice A es.length c])
      hmx (by kernel_rfl) (by kernel_rfl) (by kernel_rfl) ⟨k0, k2, hxW⟩ rfl ?_
    simp only [Pu.named, List.filterMap_cons, List.filterMap_nil, List.getElem?_toArray, List.getElem?_cons_succ, List.getElem?_cons_zero, Option.map_some]
    iterate 07 (apply Pu.WalkM.on (by rfl)
                · rintro V ⟨m0, m2, mx⟩
                  have z0 := m0.cell (j := 0) (v := .pointer (some ⟨xb, 0, none⟩)) rfl
                  have z2 := m2.cell (j := 0) (v := .int .i64 xs.length) rfl
                  have zx := mx.cell (j := 0) (v := .slice A es.length c) rfl
                  go_wp2_with fail
                  refine ⟨rfl, ?_, rfl⟩
                  try simp only [Act.put, List.setIfInBounds_toArray, List.set_cons_succ, List.set_cons_zero]
                  rfl
                simp only [Act.put, List.setIfInBounds_toArray, List.set_cons_succ, List.set_cons_zero])
    refine Pu.WalkM.make (by rfl) ?_
    intro V hV
    rw [hV]
    clear hV V
    have z1 := k1.cell (j := 0) (v := .bool false) rfl
    have f1 := k1.frozen 0
    go_wp2_with fail
    refine ⟨rfl, undef, (fun _ => True), (fun V => V = W.drew.setCell ⟨w.heap.size + 1, 0, none⟩ (.bool true)), rfl, rfl, (fun _ _ => trivial), (.inl (by kernel_rfl)), Pu.WalkM.nil ?_⟩
    intro V hV
    rw [hV]
    clear hV V
    simp only [Act.put]
    have hb22 := k1.set 0 (.bool true)
    have hBB := hB.drew.grown (grownBy_set W.drew (w.heap.size + 1) 0 (.bool true)) (by show w.heap.size ≤ W.heap.size; omega) (fun k e => by cases e; omega)
    have hK2 : (W.drew.setCell ⟨w.heap.size + 1, 0, none⟩ (.bool true)).heap[D]? = some (.deferred (some [])) := ((grownBy_set W.drew (w.heap.size + 1) 0 (.bool true)).block D (Array.getElem?_eq_some_iff.1 hK).1 (fun e => by cases e; omega)).trans hK
    clear z1 f1
    gi_wp2
    refine ⟨by simp, .inl ⟨_, _, rfl, run_takeDeferred hK2, ?_⟩⟩
    have c4 : ((W.setCell ⟨w.heap.size + 1, 0, none⟩ (.bool true)).drew.putObj D (.deferred none)).cell? ⟨w.heap.size + 1, 0, none⟩ = some (.bool true) := (boxed_end hb22 hK2).cell
    refine ⟨.bool true, ?_, rfl, below_end (HB5.out.trans hBB) (by omega) hK2⟩
    simp [results, Tryz.f20, go_sem, c4]
end Pc
end Go.Proofs.YtdbkkldgobkjcaaGreat

namespace Go.Proofs.YtdbkkldgobkjcaaGreat
open Go.RowKit Go.Maps
namespace Pc
open It Mv

theorem PcAt.less {w : World} {base b mb : Nat} {X X' : Nat → Prop} {ds : List Row} (h : PcAt w base b mb X' ds) (hX : ∀ i, X i → X' i) : PcAt w base b mb X ds := by
  obtain ⟨m, hm, hR⟩ := h.map
  exact ⟨h.ob, ⟨m, hm, hR.keep (Kept.refl (fun _ => True) w) (fun i _ hi => ⟨trivial, hi.1, hi.2.1, fun hx => hi.2.2.1 (hX i hx), hi.2.2.2⟩)⟩, h.frm, h.apart, fun d hd => ⟨(h.sep d hd).1, (h.sep d hd).2.1, fun hx => (h.sep d hd).2.2.1 (hX _ hx), (h.sep d hd).2.2.2⟩, h.ne, h.lo, ⟨fun hx => h.nx.1 (hX _ hx), fun hx => h.nx.2 (hX _ hx)⟩, fun i hi => h.xl i (hX i hi), h.ok⟩
/-- the blocks that a call on the parcels may write -/
def Yof (mb : Nat) (ds : List Row) (i : Nat) : Prop := i = mb ∨ ∃ d ∈ ds, i = d.fb
theorem PcAt.y {w : World} {base b mb : Nat} {X : Nat → Prop} {ds : List Row} (h : PcAt w base b mb X ds) {i : Nat} (hi : Yof mb ds i) : i < w.heap.size ∧ base ≤ i ∧ ¬ X i := by
  rcases hi with rfl | ⟨d, hd, rfl⟩
  · obtain ⟨m, hm, -⟩ := h.map
    exact ⟨hm.lt, h.lo.2, h.nx.2⟩
  · exact ⟨GMap.lt (h.frm d hd), (h.sep d hd).2.2.2, (h.sep d hd).2.2.1⟩
theorem Other.kept {mb : Nat} {ds : List Row} {w w' : World} (h : Other mb ds w w') {Fr : Nat → Prop} (hF : ∀ i, Fr i → i < w.heap.size ∧ ¬ Yof mb ds i) : Kept Fr w w' :=
  Kept.mono h fun i hi => ⟨(hF i hi).1, fun e => (hF i hi).2 (.inl e), fun d hd e => (hF i hi).2 (.inr ⟨d, hd, e⟩)⟩
theorem DocP.call {w w' : World} {xb base : Nat} {Y Y' : Nat → Prop} {es : List DR} (h : DocP w xb base Y es) (hk : Kept (fun i => i < w.heap.size ∧ ¬ Y i) w w') (hY : ∀ i, Y' i → (Y i ∨ w.heap.size ≤ i) ∧ i < w'.heap.size) : DocP w' xb base Y' es := by
  obtain ⟨v, h1, h2, h3⟩ := h.ob
  have hn : ∀ i, i < w.heap.size → ¬ Y i → ¬ Y' i := fun i hi hx hx' => by
    rcases (hY i hx').1 with h | h
    · exact hx h
    · omega
  refine ⟨⟨v, hk.ob h1 ⟨h1.lt, h.nx⟩, ?_, fun g hg => hn g (h2.lt g hg).2 (h3 g hg)⟩, fun p hp => ?_, hn xb h1.lt h.nx, fun i hi => (hY i hi).2⟩
  · refine ⟨h2.1, ?_⟩
    rcases h2.2 with h4 | ⟨g, cap, cur, e, hb, hg, hr⟩
    · exact .inl h4
    · refine .inr ⟨g, cap, cur, e, hb, (hk.block g ⟨(Array.getElem?_eq_some_iff.1 hg).1, h3 g (by rw [e]; rfl)⟩).trans hg, hr⟩
  · obtain ⟨n1, n2, n3⟩ := h.nest p hp
    have hF : ∀ i, i < w.heap.size → (i ≠ xb ∧ ¬ Y i) → (i < w.heap.size ∧ ¬ Y i) ∧ (i ≠ xb ∧ ¬ Y' i) := fun i hi hh => ⟨⟨hi, hh.2⟩, hh.1, hn i hi hh.2⟩
    exact ⟨n1.keep hk hF, n2.keep hk hF, n3.keep hk hF⟩
theorem Kept.own {w w' : World} {Fr : Nat → Prop} {lo size n : Nat} {e : TypeId} {v : Value} {xs : List Value} (hk : Kept Fr w w') (h : w.ownsRow lo e size v n xs) (hF : ∀ g, v.ownBlock = some g → g < w.heap.size → Fr g) : w'.ownsRow lo e size v n xs := by
  refine ⟨h.1, ?_⟩
  rcases h.2 with h4 | ⟨g, cap, cur, rfl, hb, hg, hr⟩
  · exact .inl h4
  · exact .inr ⟨g, cap, cur, rfl, hb, (hk.block g (hF g rfl (Array.getElem?_eq_some_iff.1 hg).1)).trans hg, hr⟩

theorem open_fb {ds : List Row} {od : Int} {l : List It.Item} {fb n : Nat} (hn : n ≤ fb) : ∀ x ∈ (openOf ds od l fb).1, (∃ d ∈ ds, x.fb = d.fb) ∨ n ≤ x.fb := by
  intro x hx
  unfold openOf at hx
  split at hx
  · exact .inl ⟨x, hx, rfl⟩
  · split at hx
    · exact .inl ⟨x, hx, rfl⟩
    · split at hx
      · exact .inl ⟨x, hx, rfl⟩
      · rcases putR_mem hx with rfl | ⟨h, -⟩
        · exact .inr hn
        · exact .inl ⟨x, h, rfl⟩
theorem put_fb {ds : List Row} {c d : Row} {n : Nat} (hc : c ∈ ds) (e : d.fb = c.fb) : ∀ x ∈ putR ds d, (∃ d ∈ ds, x.fb = d.fb) ∨ n ≤ x.fb := by
  intro x hx
  rcases putR_mem hx with rfl | ⟨h, -⟩
  · exact .inl ⟨c, hc, e⟩
  · exact .inl ⟨x, h, rfl⟩
theorem ship_fb {ds : List Row} {od r : Int} {l : List It.Item} {n : Nat} : ∀ x ∈ (shipOf ds od r l).1, (∃ d ∈ ds, x.fb = d.fb) ∨ n ≤ x.fb := by
  intro x hx
  unfold shipOf at hx
  split at hx
  · exact .inl ⟨x, hx, rfl⟩
  · cases hf : findR ds od with
    | none => rw [hf] at hx; exact .inl ⟨x, hx, rfl⟩
    | some d =>
      rw [hf] at hx
      dsimp only at hx
      split at hx
      · exact .inl ⟨x, hx, rfl⟩
      · split at hx
        · exact .inl ⟨x, hx, rfl⟩
        · split at hx
          · dsimp only at hx
            exact put_fb (d := { d with sh := (withinOf d.wa d.sh l).1, fr := mPut intK d.fr r (.bool true) }) (findR_mem hf).1 rfl x hx
          · exact .inl ⟨x, hx, rfl⟩
theorem back_fb {ds : List Row} {od : Int} {l : List It.Item} {n : Nat} : ∀ x ∈ (backOf ds od l).1, (∃ d ∈ ds, x.fb = d.fb) ∨ n ≤ x.fb := by
  intro x hx
  unfold backOf at hx
  cases hf : findR ds od with
  | none => rw [hf] at hx; exact .inl ⟨x, hx, rfl⟩
  | some d =>
    rw [hf] at hx
    dsimp only at hx
    split at hx
    · exact .inl ⟨x, hx, rfl⟩
    · split at hx
      · exact put_fb (d := { d with ba := (withinOf d.sh d.ba l).1 }) (findR_mem hf).1 rfl x hx
      · exact .inl ⟨x, hx, rfl⟩
theorem undo_fb {ds : List Row} {od : Int} {l : List It.Item} {n : Nat} : ∀ x ∈ (undoOf ds od l).1, (∃ d ∈ ds, x.fb = d.fb) ∨ n ≤ x.fb := by
  intro x hx
  unfold undoOf at hx
  cases hf : findR ds od with
  | none => rw [hf] at hx; exact .inl ⟨x, hx, rfl⟩
  | some d =>
    rw [hf] at hx
    dsimp only at hx
    split at hx
    · exact .inl ⟨x, hx, rfl⟩
    · split at hx
      · exact put_fb (d := { d with ba := (minusOf d.ba l).1 }) (findR_mem hf).1 rfl x hx
      · exact .inl ⟨x, hx, rfl⟩

/-- the state between two calls: both hold the same rows; Z: blocks of the law's own -/
structure St (w : World) (b mb xb : Nat) (Z : Nat → Prop) (W : World) (ds : List Row) (es : List DR) : Prop where
  below : Below w.heap.size w W
  pc : PcAt W w.heap.size b mb (fun i => i = xb ∨ Z i) ds
  doc : DocP W xb w.heap.size (fun i => Yof mb ds i ∨ Z i) es
  map : es.map (·.d) = ds
  xlo : w.heap.size ≤ xb
theorem St.same {w : World} {b mb xb : Nat} {Z : Nat → Prop} {W W' : World} {ds : List Row} {es : List DR} (h : St w b mb xb Z W ds es) (hb : Below W.heap.size W W') : St w b mb xb Z W' ds es :=
  ⟨h.below.trans (hb.mono h.below.size), h.pc.same hb, h.doc.same hb, h.map, h.xlo⟩
theorem St.more {w : World} {b mb xb : Nat} {Z Z' : Nat → Prop} {W W' : World} {ds : List Row} {es : List DR} (h : St w b mb xb Z W ds es) (hb : Below W.heap.size W W') (hZ : ∀ i, Z' i → (Z i ∨ W.heap.size ≤ i) ∧ i < W'.heap.size) : St w b mb xb Z' W' ds es := by
  have hs := hb.size
  refine ⟨h.below.trans (hb.mono h.below.size), h.pc.more hb (fun i hi => ?_), h.doc.more hb (fun i hi => ?_), h.map, h.xlo⟩
  · rcases hi with rfl | hi
    · exact ⟨.inl (.inl rfl), Nat.lt_of_lt_of_le (h.pc.xl _ (.inl rfl)) hs⟩
    · obtain ⟨h1, h2⟩ := hZ i hi
      exact ⟨h1.elim (fun h => .inl (.inr h)) .inr, h2⟩
  · rcases hi with hi | hi
    · exact ⟨.inl (.inl hi), Nat.lt_of_lt_of_le (h.doc.yl i (.inl hi)) hs⟩
    · obtain ⟨h1, h2⟩ := hZ i hi
      exact ⟨h1.elim (fun h => .inl (.inr h)) .inr, h2⟩
theorem St.less {w : World} {b mb xb : Nat} {Z Z' : Nat → Prop} {W : World} {ds : List Row} {es : List DR} (h : St w b mb xb Z W ds es) (hZ : ∀ i, Z' i → Z i) : St w b mb xb Z' W ds es :=
  ⟨h.below, h.pc.less (fun i hi => hi.imp_right (hZ i)), h.doc.less (fun i hi => hi.imp_right (hZ i)), h.map, h.xlo⟩
/-- a write to a block of the law's own -/
theorem St.wrote {w : World} {b mb xb g : Nat} {Z : Nat → Prop} {W W' : World} {ds : List Row} {es : List DR} (h : St w b mb xb Z W ds es) (hg : W.grownBy W' (some g)) (hz : Z g) (hl : w.heap.size ≤ g) : St w b mb xb Z W' ds es :=
  ⟨h.below.grown hg h.below.size (fun k e => by cases e; exact hl), h.pc.keep (Kept.of_grown hg fun i hi => ⟨hi.1, fun e => hi.2 (.inr (by rw [Option.some.inj e]; exact hz))⟩), h.doc.keep (Kept.of_grown hg fun i hi => ⟨hi.1, fun e => hi.2 (.inr (by rw [Option.some.inj e]; exact hz))⟩), h.map, h.xlo⟩
/-- behind the program's call, ahead of the document's -/
theorem St.call {w : World} {b mb xb : Nat} {Z : Nat → Prop} {W W2 : World} {ds ds2 : List Row} {es : List DR} (h : St w b mb xb Z W ds es) (ho : Other mb ds W W2) (hP : PcAt W2 w.heap.size b mb (fun i => i = xb ∨ Z i) ds2) (hfb : ∀ x ∈ ds2, (∃ d ∈ ds, x.fb = d.fb) ∨ W.heap.size ≤ x.fb) (hz : ∀ i, Z i → w.heap.size ≤ i) :
    Below w.heap.size w W2 ∧ DocP W2 xb w.heap.size (fun i => Yof mb ds2 i ∨ Z i) es ∧ ∀ lv l, ItemsAt W2 0 w.heap.size lv l → LiAt W2 (fun i => i ≠ xb ∧ ¬ (Yof mb ds2 i ∨ Z i)) lv l := by
  have hB := ho.below h.pc (Nat.le_refl _) h.below (Nat.le_refl _)
  refine ⟨hB, h.doc.call (ho.kept fun i hi => ⟨hi.1, fun hy => hi.2 (.inl hy)⟩) (fun i hi => ?_), fun lv l hI => ?_⟩
  · rcases hi with hi | hi
    · refine ⟨?_, (hP.y hi).1⟩
      rcases hi with rfl | ⟨d, hd, rfl⟩
      · exact .inl (.inl (.inl rfl))
      · rcases hfb d hd with ⟨c, hc, e⟩ | h
        · exact .inl (.inl (.inr ⟨c, hc, e⟩))
        · exact .inr h
    · exact ⟨.inl (.inr hi), hP.xl i (.inr hi)⟩
  · refine ⟨0, w.heap.size, hI, hB.size, fun i _ hi => ⟨by have := h.xlo; omega, ?_⟩⟩
    rintro (hy | hy)
    · have := (hP.y hy).2.1; omega
    · have := hz i hy; omega
/-- behind the document's call -/
theorem St.fin {w : World} {b mb xb : Nat} {Z : Nat → Prop} {W2 W3 : World} {ds2 : List Row} {es2 : List DR} (hxb : w.heap.size ≤ xb) (hB : Below w.heap.size w W2) (hP : PcAt W2 w.heap.size b mb (fun i => i = xb ∨ Z i) ds2) (hD : DocP W3 xb w.heap.size (fun i => Yof mb ds2 i ∨ Z i) es2) (hg : W2.grownBy W3 (some xb)) (he : es2.map (·.d) = ds2) : St w b mb xb Z W3 ds2 es2 :=
  ⟨hB.grown hg hB.size (fun k e => by cases e; exact hxb), hP.keep (Kept.of_grown hg fun i hi => ⟨hi.1, fun e => hi.2 (.inl (Option.some.inj e))⟩), hD, he, hxb⟩
end Pc
end Go.Proofs.YtdbkkldgobkjcaaGreat

namespace Go.Proofs.YtdbkkldgobkjcaaGreat
open Go.RowKit Go.Maps
namespace Pc
open It Mv Ce

def regs (d : Row) : List Int := d.fr.map (·.1)
def nums (l : List Int) : List UInt8 := l.flatMap numC
def encR (d : Row) : List UInt8 := numC d.od ++ (Ce.encI d.wa ++ (Ce.encI d.sh ++ (Ce.encI d.ba ++ (numC (regs d).length ++ nums (regs d)))))
def cellsR (ds : List Row) : List UInt8 := ds.flatMap encR
def packR (ds : List Row) : List UInt8 := numC ds.length ++ cellsR ds
theorem nums_snoc (l : List Int) (k : Int) : nums (l ++ [k]) = nums l ++ numC k := by simp [nums]
theorem nums_cons (l : List Int) (k : Int) : nums (k :: l) = numC k ++ nums l := by simp [nums]
theorem nums_len (l : List Int) : (nums l).length ≤ l.length * 9 := by
  induction l with
  | nil => simp [nums]
  | cons k r ih =>
    rw [nums_cons, List.length_append, List.length_cons]
    have := (numC_len k).2
    omega
theorem cellsR_snoc (ds : List Row) (d : Row) : cellsR (ds ++ [d]) = cellsR ds ++ encR d := by simp [cellsR]
theorem cellsR_cons (ds : List Row) (d : Row) : cellsR (d :: ds) = encR d ++ cellsR ds := by simp [cellsR]
/-- what a code asks of a row besides -/
structure OkE (d : Row) : Prop where
  ok : OkR d
  srt : (regs d).Pairwise (· < ·)
  sh : d.sh ≠ [] → d.fr ≠ []
theorem OkE.regs {d : Row} (h : OkE d) : ∀ k ∈ regs d, 0 ≤ k ∧ k ≤ 7 := fun k hk => by
  obtain ⟨p, hp, rfl⟩ := List.mem_map.1 hk
  have := h.ok.fr p hp
  omega
theorem OkE.len {d : Row} (h : OkE d) : (Pc.regs d).length ≤ 8 := by
  have := sorted_len 8 (Pc.regs d) 0 h.srt (fun x hx => by have := h.regs x hx; omega) (by omega)
  omega
theorem encR_len {d : Row} (h : OkE d) : (encR d).length ≤ 2000 := by
  have h1 := (numC_len d.od).2
  have h2 := encI_len ((may_iff _).2 h.ok.wa)
  have h3 := encI_len ((may_iff _).2 h.ok.sh)
  have h4 := encI_len ((may_iff _).2 h.ok.ba)
  have h5 := (numC_len (Pc.regs d).length).2
  have h6 := nums_len (Pc.regs d)
  have h7 := h.len
  unfold encR
  simp only [List.length_append]
  omega
theorem cellsR_len {ds : List Row} (h : ∀ d ∈ ds, OkE d) : (cellsR ds).length ≤ ds.length * 2000 := by
  induction ds with
  | nil => simp [cellsR]
  | cons d r ih =>
    rw [cellsR_cons, List.length_append, List.length_cons]
    have h1 := ih fun e he => h e (List.mem_cons_of_mem _ he)
    have h2 := encR_len (h d (List.mem_cons_self ..))
    omega
def mNums (s : List UInt8 × Bool) (l : List Int) : List UInt8 × Bool := l.foldl (fun s k => Ce.mPut s (numC k)) s
theorem mNums_snoc (s : List UInt8 × Bool) (l : List Int) (k : Int) : mNums s (l ++ [k]) = Ce.mPut (mNums s l) (numC k) := by simp [mNums]
theorem mNums_short : ∀ (l : List Int) (s : List UInt8), s.length + (nums l).length ≤ 262144 → mNums (s, false) l = (s ++ nums l, false)
  | [], s, _ => by simp [mNums, nums]
  | k :: r, s, h => by
    rw [nums_cons, List.length_append] at h
    have e : mNums (s, false) (k :: r) = mNums (Ce.mPut (s, false) (numC k)) r := rfl
    rw [e, mPut_short (by omega), mNums_short r _ (by rw [List.length_append]; omega), nums_cons, List.append_assoc]
/-- a row put behind others -/
def mPutR (s : List UInt8 × Bool) (d : Row) : List UInt8 × Bool :=
  mNums (Ce.mPut (mPutI (mPutI (mPutI (Ce.mPut s (numC d.od)) d.wa) d.sh) d.ba) (numC (regs d).length)) (regs d)
theorem mPutR_short {s : List UInt8} {d : Row} (h : s.length + (encR d).length ≤ 262144) : mPutR (s, false) d = (s ++ encR d, false) := by
  unfold encR at h ⊢
  simp only [List.length_append] at h
  unfold mPutR
  rw [mPut_short (by omega), mPutI_short (by simp only [List.length_append]; omega), mPutI_short (by simp only [List.length_append]; omega), mPutI_short (by simp only [List.length_append]; omega), mPut_short (by simp only [List.length_append]; omega), mNums_short _ _ (by simp only [List.length_append]; omega)]
  simp only [List.append_assoc]

/-- two rising lists of the same numbers are one -/
theorem rise_ext : ∀ (a b : List Int), a.Pairwise (· < ·) → b.Pairwise (· < ·) → (∀ x, x ∈ a ↔ x ∈ b) → a = b
  | [], [], _, _, _ => rfl
  | [], y :: b, _, _, h => by have := (h y).2 (by simp); cases this
  | x :: a, [], _, _, h => by have := (h x).1 (by simp); cases this
  | x :: a, y :: b, ha, hb, h => by
    rw [List.pairwise_cons] at ha hb
    have e : x = y := by
      rcases List.mem_cons.1 ((h x).1 (by simp)) with h1 | h1
      · exact h1
      · rcases List.mem_cons.1 ((h y).2 (by simp)) with h2 | h2
        · exact h2.symm
        · have := ha.1 y h2
          have := hb.1 x h1
          omega
    subst e
    congr 1
    refine rise_ext a b ha.2 hb.2 fun z => ?_
    constructor
    · intro hz
      rcases List.mem_cons.1 ((h z).1 (List.mem_cons_of_mem _ hz)) with h1 | h1
      · have := ha.1 z hz; omega
      · exact h1
    · intro hz
      rcases List.mem_cons.1 ((h z).2 (List.mem_cons_of_mem _ hz)) with h1 | h1
      · have := hb.1 z hz; omega
      · exact h1
/-- the regions below j, as the document counts them -/
def rgs (d : Row) (j : Nat) : List Int := ((List.range j).map Int.ofNat).filter fun k => isIn d k
theorem rgs_succ (d : Row) (j : Nat) : rgs d (j + 1) = if isIn d j then rgs d j ++ [(j : Int)] else rgs d j := by
  unfold rgs
  rw [List.range_succ, List.map_append, List.filter_append]
  simp only [List.map_cons, List.map_nil, List.filter_cons, List.filter_nil, Int.ofNat_eq_natCast]
  split <;> simp
theorem mGet_some {m : List (Int × Value)} {k : Int} : (mGet m k).isSome = true ↔ k ∈ m.map (·.1) := by
  induction m with
  | nil => simp [mGet]
  | cons p r ih =>
    rw [mGet_cons]
    by_cases e : p.1 = k
    · simp [e]
    · rw [if_neg e, ih]
      simp [Ne.symm e]
theorem rgs_all {d : Row} (h : OkE d) : rgs d 8 = regs d := by
  refine rise_ext _ _ ?_ h.srt fun x => ?_
  · unfold rgs
    refine List.Pairwise.filter _ ?_
    rw [List.pairwise_map]
    exact List.pairwise_lt_range.imp (fun h => by simpa using h)
  · unfold rgs
    rw [List.mem_filter]
    unfold isIn
    rw [mGet_some]
    constructor
    · exact fun h => h.2
    · intro hx
      have := h.regs x hx
      refine ⟨List.mem_map.2 ⟨x.toNat, List.mem_range.2 (by omega), by simp; omega⟩, hx⟩
theorem rgs_len (d : Row) (j : Nat) : (rgs d j).length ≤ j := by
  unfold rgs
  exact Nat.le_trans (List.length_filter_le _ _) (by simp)

/-- what every call keeps: every row that was shipped of has regions -/
def ShE (ds : List Row) : Prop := ∀ d ∈ ds, d.sh ≠ [] → d.fr ≠ []
theorem mPut_ne (m : List (Int × Value)) (k : Int) (v : Value) : mPut intK m k v ≠ [] := by
  intro e
  have := mGet_put_same (K := intK) m k v
  rw [e] at this
  cases this
theorem ShE.put {ds : List Row} (h : ShE ds) {d : Row} (hd : d.sh ≠ [] → d.fr ≠ []) : ShE (putR ds d) := fun x hx => by
  rcases putR_mem hx with rfl | ⟨h1, -⟩
  · exact hd
  · exact h x h1
theorem ShE.opens {ds : List Row} (h : ShE ds) {od : Int} {wa : List It.Item} {fb : Nat} : ShE (openOf ds od wa fb).1 := by
  unfold openOf
  split
  · exact h
  · split
    · exact h
    · split
      · exact h
      · exact h.put (fun e => (e rfl).elim)
theorem ShE.ship {ds : List Row} (h : ShE ds) {od r : Int} {l : List It.Item} : ShE (shipOf ds od r l).1 := by
  unfold shipOf
  split
  · exact h
  · split
    · exact h
    · split
      · exact h
      · split
        · exact h
        · split
          · exact h.put (fun _ => mPut_ne _ _ _)
          · exact h
theorem ShE.back {ds : List Row} (h : ShE ds) {od : Int} {l : List It.Item} : ShE (backOf ds od l).1 := by
  unfold backOf
  split
  · exact h
  · rename_i d hf
    split
    · exact h
    · split
      · exact h.put (fun e => h d (findR_mem hf).1 e)
      · exact h
theorem ShE.undo {ds : List Row} (h : ShE ds) {od : Int} {l : List It.Item} : ShE (undoOf ds od l).1 := by
  unfold undoOf
  split
  · exact h
  · rename_i d hf
    split
    · exact h
    · split
      · exact h.put (fun e => h d (findR_mem hf).1 e)
      · exact h
theorem putR_len {ds : List Row} {d : Row} : (putR ds d).length ≤ ds.length + 1 := by
  unfold putR
  rw [(insR_perm d (delR ds d.od)).length_eq]
  have := List.length_filter_le (fun c : Row => !decide (c.od = d.od)) ds
  unfold delR
  simp only [List.length_cons]
  omega
theorem open_len {ds : List Row} {od : Int} {wa : List It.Item} {fb : Nat} : (openOf ds od wa fb).1.length ≤ ds.length + 1 := by
  unfold openOf
  split
  · simp
  · split
    · simp
    · split
      · simp
      · exact putR_len
theorem ship_len {ds : List Row} {od r : Int} {l : List It.Item} : (shipOf ds od r l).1.length ≤ ds.length + 1 := by
  unfold shipOf
  split
  · simp
  · split
    · simp
    · split
      · simp
      · split
        · simp
        · split
          · exact putR_len
          · simp
theorem back_len {ds : List Row} {od : Int} {l : List It.Item} : (backOf ds od l).1.length ≤ ds.length + 1 := by
  unfold backOf
  split
  · simp
  · split
    · simp
    · split
      · exact putR_len
      · simp
theorem undo_len {ds : List Row} {od : Int} {l : List It.Item} : (undoOf ds od l).1.length ≤ ds.length + 1 := by
  unfold undoOf
  split
  · simp
  · split
    · simp
    · split
      · exact putR_len
      · simp
/-- rows that are the same but for their maps' blocks -/
def Like (ds ds' : List Row) : Prop := ds.map (fun d => { d with fb := 0 }) = ds'.map (fun d => { d with fb := 0 })
theorem Like.pack {ds ds' : List Row} (h : Like ds ds') : packR ds = packR ds' := by
  have hl : ds.length = ds'.length := by have := congrArg List.length h; simpa using this
  have hc : cellsR ds = cellsR ds' := by
    have e : ∀ l : List Row, cellsR l = cellsR (l.map (fun d => { d with fb := 0 })) := fun l => by
      unfold cellsR
      rw [List.flatMap_map]
      rfl
    rw [e ds, e ds', h]
  unfold packR
  rw [hl, hc]
end Pc
end Go.Proofs.YtdbkkldgobkjcaaGreat

namespace Go.Proofs.YtdbkkldgobkjcaaGreat
open Go.RowKit Go.Maps Go.Sort Go.Shelf
namespace KsB

theorem sorts (m : Nat) : AnyZI.SortsIn Tryz.prog Tryz.sorted80_ren Fence.wide m :=
  ⟨fun blk off cap ss W hH hblk hsz => callsIn_wide.2 (AnyM.slices_Sort_int Tryz.sort114 blk off cap ss W hH hblk hsz),
   fun p cap W => callsIn_wide.2 (AnyM.slices_Sort_int_none Tryz.sort114 p cap W)⟩
theorem keys_calls (mb : Option Nat) (W : World) : CallsIn Fence.wide 5 Tryz.prog 82 #[.map mb] W fun e w' => e = .returned (.func (.func 116) #[] #[.pointer (some ⟨W.heap.size, 0, none⟩)]) ∧ w' = W.alloc (.cells #[.map mb] 85) :=
  AnyZI.keys_in Tryz.keys82 Fence.wide 5 trivial rfl mb W
theorem intKeys_mEs (m : List (Int × Value)) : intKeys (DataW.map (mEs intK m)) = m.map (·.1) := by
  simp [intKeys, mEs, Function.comp_def, intK]
  exact fun _ _ _ => rfl

set_option maxHeartbeats 1000000 in
theorem sorted_calls (b : Nat) (m : List (Int × Value)) (w : World) (hown : GMap intK w Tryz.prog 3 b m) (KK : Keyed Tryz.prog 3) (hmax : m.length ≤ 1099511627776) :
    CallsIn Fence.wide 5 Tryz.prog 80 #[.func (.func 116) #[] #[.pointer (some ⟨w.heap.size, 0, none⟩)]] (w.alloc (.cells #[.map (some b)] 85)) fun e w' => ∃ v : Value, e = .returned v ∧
      w'.ownsRow (w.alloc (.cells #[.map (some b)] 85)).heap.size 3 1 v (m.map (·.1)).length (ints (m.map (·.1))) ∧ Below (w.alloc (.cells #[.map (some b)] 85)).heap.size (w.alloc (.cells #[.map (some b)] 85)) w' := by
  have hsort := hown.sorted KK
  have hbl := hown.lt
  have hsz : Maps.size (DataW.map (mEs intK m)) = m.length := by simp [Maps.size, mEs]
  have hseq : SeqGives Fence.wide 2 Tryz.prog 116 #[.pointer (some ⟨w.heap.size, 0, none⟩)] encZ (fun ss => ss.Perm (intKeys (DataW.map (mEs intK m)))) (Maps.size (DataW.map (mEs intK m))) (w.alloc (.cells #[.map (some b)] 85)) :=
    AnyZI.keys_gives (ρ := Tryz.keys82_ren) { Tryz.keys82 with } Fence.wide _ trivial rfl (by omega) w.heap.size b m.length (DataW.map (mEs intK m)) _ (by simp) (by simp) (by
      obtain ⟨es, clock, hb, Ft, hs, hD⟩ := hown
      exact ⟨es, clock, (Below.heap_alloc _ _ b hbl).trans hb, Ft, hs, hD⟩)
  have h := AnyZI.sorted_in Tryz.sorted80 Fence.wide 5 trivial trivial trivial trivial rfl (by omega) (sorts _) (enters_of Tryz.func114 (by kernel_rfl) rfl) 116 #[.pointer (some ⟨w.heap.size, 0, none⟩)] trivial (enters_of Tryz.func116 (by kernel_rfl) rfl) _ _ (by rw [hsz]; unfold maxLen; omega) (by rw [hsz]; omega) _ hseq
  refine h.mono ?_
  rintro e w' ⟨v, ss, rfl, hp, hrow, _, hb⟩
  rw [intKeys_mEs] at hp
  have hlt : (m.map (·.1)).Pairwise (· < ·) := by
    rw [List.pairwise_map]
    exact hsort.imp (fun {p q} h => by simpa [intK] using h)
  have he : ss.mergeSort (fun x y => decide (x ≤ y)) = m.map (·.1) := by
    refine ((List.mergeSort_perm ss _).trans hp).eq_of_pairwise (le := fun a b : Int => a ≤ b) (fun a b _ _ h1 h2 => Int.le_antisymm h1 h2) ?_ (hlt.imp (fun h => Int.le_of_lt h))
    have := List.pairwise_mergeSort (le := fun x y : Int => decide (x ≤ y)) (fun a b c h1 h2 => by simp only [decide_eq_true_eq] at *; omega) (fun a b => by simp only [Bool.or_eq_true, decide_eq_true_eq]; omega) ss
    exact this.imp (fun h => by simpa using h)
  have hl : ss.length = (m.map (·.1)).length := hp.length_eq
  rw [he, hl] at hrow
  exact ⟨v, rfl, hrow, hb⟩
end KsB
end Go.Proofs.YtdbkkldgobkjcaaGreat

namespace Go.Proofs.YtdbkkldgobkjcaaGreat
open Go.RowKit Go.Maps
namespace Pc
open It Mv Ce

/-- a maker at work: w is where the call began, W3 where its loop began -/
structure Pk (w W3 : World) (FL Fr : Nat → Prop) (bm : Nat) (s : List UInt8 × Bool) (W : World) : Prop where
  mkr : Mk W bm Fr s
  kp : Kept FL W3 W
  bl : Below w.heap.size w W
  sub : ∀ i, FL i → Fr i
  lo : ∀ i, i < w.heap.size → FL i
section
variable {w W3 W W' : World} {FL Fr Fr' : Nat → Prop} {bm : Nat} {s s' : List UInt8 × Bool}
theorem Pk.call (h : Pk w W3 FL Fr bm s W) (hm : Mk W' bm Fr s') (hk : Kept Fr W W') : Pk w W3 FL Fr bm s' W' :=
  ⟨hm, h.kp.trans (hk.mono h.sub), h.bl.trans (hk.below fun i hi => h.sub i (h.lo i hi)), h.sub, h.lo⟩
theorem Pk.more (h : Pk w W3 FL Fr bm s W) (hb : Below W.heap.size W W') (hF : ∀ i, FL i → Fr' i) (hF2 : ∀ i, Fr' i → (Fr i ∨ W.heap.size ≤ i) ∧ i < W'.heap.size) : Pk w W3 FL Fr' bm s W' :=
  ⟨h.mkr.later hb hF2, h.kp.trans (Kept.of_below hb fun i hi => h.mkr.2.2.1 i (h.sub i hi)), h.bl.trans (hb.mono h.bl.size), hF, h.lo⟩
theorem Pk.less (h : Pk w W3 FL Fr bm s W) (hF : ∀ i, FL i → Fr' i) (hF2 : ∀ i, Fr' i → Fr i) : Pk w W3 FL Fr' bm s W := ⟨h.mkr.narrow hF2, h.kp, h.bl, hF, h.lo⟩
theorem pk_num (n : Int) (h : Pk w W3 FL Fr bm s W) (h0 : -9223372036854775808 ≤ n) (h1 : n ≤ 9223372036854775807) :
    Calls Tryz.prog 64 #[.pointer (some ⟨bm, 0, none⟩), .int .i64 n] W fun e w' => e = .returned (.pointer (some ⟨bm, 0, none⟩)) ∧ Pk w W3 FL Fr bm (Ce.mPut s (numC n)) w' ∧ Kept Fr W w' :=
  (mnum_calls n bm Fr s W h.mkr h0 h1).mono fun _ _ ⟨h1, h2, h3⟩ => ⟨h1, h.call h2 h3, h3⟩
theorem pk_put (L : List It.Item) (v : Value) (h : Pk w W3 FL Fr bm s W) (hI : ItemsAt w 0 w.heap.size v L) (hF : Fits L) (hm : may L = true) :
    Calls Tryz.prog 65 #[.pointer (some ⟨bm, 0, none⟩), v] W fun e w' => e = .returned (.pointer (some ⟨bm, 0, none⟩)) ∧ Pk w W3 FL Fr bm (mPutI s L) w' ∧ Kept Fr W w' :=
  (iput_calls L v bm 0 w.heap.size Fr s W h.mkr (hI.below h.bl) h.bl.size (fun i _ hi => h.sub i (h.lo i hi)) hF hm).mono fun _ _ ⟨h1, h2, h3⟩ => ⟨h1, h.call h2 h3, h3⟩
end
/-- three lists put, one behind the other -/
def put3 (s : List UInt8 × Bool) (a b c : List It.Item) : Nat → List UInt8 × Bool
  | 0 => s
  | 1 => mPutI s a
  | 2 => mPutI (mPutI s a) b
  | _ => mPutI (mPutI (mPutI s a) b) c
theorem zeroRw (w : World) : (zeroValue 87).run Tryz.prog w = .ok zrow w := zeroR w

set_option maxRecDepth 100000 in
set_option maxHeartbeats 16000000 in
theorem packP_calls (pb b mb : Nat) (X : Nat → Prop) (ds : List Row) (w : World) (h : PcAt w pb b mb X ds) (hE : ∀ d ∈ ds, OkE d) (hl : ds.length ≤ 120) :
    Calls Tryz.prog 38 #[.pointer (some ⟨b, 0, none⟩)] w fun e w' =>
      (∃ v, e = .returned v ∧ w'.ownsRow w.heap.size 5 1 v (packR ds).length (bytesV (packR ds))) ∧ Below w.heap.size w w' := by
  have g0 : w.cell? ⟨b, 0, none⟩ = some (.map (some mb)) := h.ob.cell (j := 0) rfl
  have hbl := h.ob.lt
  have cMd := Lib.hid (made_calls b mb w g0)
  have cNw := Lib.hid (Ce.new_calls w.drew)
  obtain ⟨m, hm, hR⟩ := h.map
  have hml := hR.length
  have hmb := hm.lt
  have hln := fun V (hb : Below w.heap.size w V) ty => (hm.below hb hmb).len (tm := 78) Tryz.underlying78 ty
  rw [hml] at hln
  have HLN := Lib.hid hln
  have H := Lib.hid h
  have HE := Lib.hid hE
  have HSRT := Lib.hid h.sorted
  have hdr := (Below.refl w.heap.size w).drew
  clear hm hR hml hln h hE
  go_enter Tryz.func38, Tryz.ntmps38
  go_wp2_with (go_at_call 43; refine cMd.out.mono ?_; rintro e W ⟨rfl, rfl⟩)
  refine Pu.regionM [(1, false), (2, false), (3, false), (4, false), (5, false), (0, true), (6, true), (7, false)] (fun V => Below w.heap.size w V) hmx (by kernel_rfl) (by kernel_rfl) (by kernel_rfl) hdr rfl ?_
  simp only [Pu.named, List.filterMap_cons, List.filterMap_nil, List.getElem?_toArray, List.getElem?_cons_succ, List.getElem?_cons_zero, Option.map_some]
  iterate 5 (apply Pu.WalkM.on (by rfl)
             · intro V hV
               have gV := (hV.cell (p := ⟨b, 0, none⟩) hbl).trans g0
               have lV := HLN.out V hV
               go_wp2_with fail
               refine ⟨rfl, ?_, rfl⟩
               try simp only [Act.put, List.setIfInBounds_toArray, List.set_cons_succ, List.set_cons_zero]
               rfl
             simp only [Act.put, List.setIfInBounds_toArray, List.set_cons_succ, List.set_cons_zero])
  refine Pu.WalkM.make (by rfl) ?_
  intro V hV
  rw [hV]
  clear hV V
  have hb1 := hdr.alloc hdr.size (.cells #[.slice none 0 0, .bool false] 154)
  have hM1 : Mk (w.drew.alloc (.cells #[.slice none 0 0, .bool false] 154)) w.drew.heap.size (fun i => i < w.heap.size) ([], false) := Mk.new w.drew _ (fun i h => h)
  go_wp2_with (go_at_call 63; refine cNw.out.mono ?_; rintro e W' ⟨rfl, rfl⟩)
  refine ⟨rfl, .pointer (some ⟨w.heap.size, 0, none⟩), (fun V => Below w.heap.size w V), (fun V => V = w.drew.alloc (.cells #[.slice none 0 0, .bool false] 154)), ?_, rfl, (fun V h => by rw [h]; exact hb1), (.inr (fun _ h => h)), ?_⟩
  · try simp only [Act.put, List.setIfInBounds_toArray, List.set_cons_succ, List.set_cons_zero]
    try rfl
  try simp only [Act.put, List.setIfInBounds_toArray, List.set_cons_succ, List.set_cons_zero]
  refine Pu.WalkM.make (by rfl) ?_
  intro V hV
  rw [hV]
  clear hV V
  have cN := mnum_calls ds.length w.heap.size _ ([], false) _ hM1 (by omega) (by omega)
  rw [mPut_short (by have := (numC_len ds.length).2; simp; omega), List.nil_append] at cN
  have CN := Lib.hid cN
  clear cN
  go_wp2_with (go_at_call 64; refine CN.out.mono ?_; rintro e W2 ⟨rfl, hM2, hK2⟩)
  have hb2 : Below w.heap.size w W2 := hb1.trans (hK2.below (fun i hi => hi))
  refine ⟨rfl, .pointer (some ⟨w.heap.size, 0, none⟩), (fun V => Below w.heap.size w V), (fun V => V = W2), ?_, rfl, (fun V h => by rw [h]; exact hb2), (.inr (fun _ h => h)), ?_⟩
  · try simp only [Act.put, List.setIfInBounds_toArray, List.set_cons_succ, List.set_cons_zero]
  try simp only [Act.put, List.setIfInBounds_toArray, List.set_cons_succ, List.set_cons_zero]
  apply Pu.WalkM.on (by rfl)
  · intro V hV
    go_wp2_with fail
    refine ⟨rfl, ?_, rfl⟩
    try simp only [Act.put, List.setIfInBounds_toArray, List.set_cons_succ, List.set_cons_zero]
    rfl
  simp only [Act.put, List.setIfInBounds_toArray, List.set_cons_succ, List.set_cons_zero]
  refine Pu.WalkM.nil ?_
  intro V hV
  rw [hV]
  clear hV V
  have h2 := H.out.same hb2
  have g2 : W2.cell? ⟨b, 0, none⟩ = some (.map (some mb)) := h2.ob.cell (j := 0) rfl
  obtain ⟨m2, hm2, hR2⟩ := h2.map
  have cK := Lib.hid (KsR.keys_calls (some mb) W2)
  have cS := KsR.sorted_calls mb m2 W2 hm2 keyedI (by rw [hR2.length]; omega)
  rw [hR2.keys] at cS
  have CS := Lib.hid cS
  clear cS hm2 hR2 h2 hM1 hb1 CN cNw cMd
  go_wp2_with (first
    | (go_at_call 81; refine (callsIn_wide.1 cK.out).mono ?_; rintro e W' ⟨rfl, rfl⟩)
    | (go_at_call 80; refine (callsIn_wide.1 CS.out).mono ?_; rintro e W3 ⟨kv, rfl, hkv, hb3⟩; obtain ⟨Ak, ck, rfl, -⟩ := (IntsAt.of_own hkv).form))
  have hlm : (ds.map (·.od)).length = ds.length := List.length_map _
  have hal3 := (Below.refl W2.heap.size W2).alloc (Nat.le_refl _) (.cells #[.map (some mb)] 78)
  have hb23 : Below W2.heap.size W2 W3 := hal3.trans (hb3.mono hal3.size)
  have hK3 : IntsAt W3 W2.heap.size W3.heap.size (.slice Ak ds.length ck) (ds.map (·.od)) := by
    have := (IntsAt.of_own hkv).wide (lo' := W2.heap.size) (by simp) (Nat.le_refl _)
    rwa [hlm] at this
  have hs23 := hb23.size
  have hs02 := hb2.size
  obtain ⟨FL, hFL⟩ : ∃ FL : Nat → Prop, FL = fun i => i < w.heap.size ∨ (W2.heap.size ≤ i ∧ i < W3.heap.size) := ⟨_, rfl⟩
  have HFLi := Lib.hid (fun i (hi : FL i) => show i < w.heap.size ∨ (W2.heap.size ≤ i ∧ i < W3.heap.size) by rw [hFL] at hi; exact hi)
  have HFL0 := Lib.hid (fun i (hi : i < w.heap.size) => show FL i by rw [hFL]; exact .inl hi)
  have HFL1 := Lib.hid (fun i (h1 : W2.heap.size ≤ i) (h2 : i < W3.heap.size) => show FL i by rw [hFL]; exact .inr ⟨h1, h2⟩)
  have hP3 : Pk w W3 FL FL w.heap.size (numC ds.length ++ cellsR (ds.take 0), false) W3 := by
    refine ⟨?_, Kept.refl _ _, hb2.trans (hb23.mono hs02), fun i hi => hi, HFL0.out⟩
    rw [List.take_zero, show cellsR ([] : List Row) = [] from rfl, List.append_nil]
    exact hM2.later hb23 fun i hi => by
      rcases HFLi.out i hi with h | ⟨h1, h2⟩
      · exact ⟨.inl h, by omega⟩
      · exact ⟨.inr h1, h2⟩
  have HP3 := Lib.hid hP3
  have HK3 := Lib.hid hK3
  have HCL := Lib.hid (fun (k : Nat) (hk : k ≤ ds.length) => (cellsR_len (ds := ds.take k) fun d hd => HE.out d (List.mem_of_mem_take hd)))
  have HSn := Lib.hid (fun (k : Nat) (h : k < ds.length) => show cellsR (ds.take (k + 1)) = cellsR (ds.take k) ++ encR ds[k] by rw [List.take_succ_eq_append_getElem h, cellsR_snoc])
  clear hkv hal3 hb3 hb23 hK3 hP3 hFL hM2 hK2 cK CS hdr g2
  go_wp2
  go_loopw [31] (fun i wr => ∃ k : Nat, k ≤ ds.length ∧ i = .int .i64 k ∧ Pk w W3 FL FL w.heap.size (numC ds.length ++ cellsR (ds.take k), false) wr) (fun i _ => ds.length - (intOf i).toNat)
  case atStart => exact ⟨0, by omega, rfl, HP3.out⟩
  case round =>
    obtain ⟨k, hk, rfl, hP⟩ := hrel
    clear HP3
    have hPc := H.out.same hP.bl
    have gb : wr.cell? ⟨b, 0, none⟩ = some (.map (some mb)) := hPc.ob.cell (j := 0) rfl
    by_cases hlt : k < ds.length
    · have hd : decide ((k : Int) < (ds.length : Int)) = true := by simp; omega
      have hKr : IntsAt wr W2.heap.size W3.heap.size (.slice Ak ds.length ck) (ds.map (·.od)) := hP.kp.sl HK3.out (fun i h1 h2 => HFL1.out i h1 h2)
      obtain ⟨kb, ko, hA, -, -, hck⟩ := hKr.cellAt (j := k) (by simpa using hlt)
      have hget : (ds.map (·.od)).getD k 0 = ds[k].od := by simp [hlt]
      rw [hget] at hck
      have hfind := findR_sorted HSRT.out k hlt
      have hEk := HE.out ds[k] (List.getElem_mem hlt)
      have hfrm := H.out.frm ds[k] (List.getElem_mem hlt)
      obtain ⟨m0, hm0, hR0⟩ := H.out.map
      obtain ⟨m1, hm1, hR1⟩ := hPc.map
      obtain ⟨val, hgv, v1, v2, v3, rfl, l1, l2, l3⟩ := hR0.some hfind
      have hm1' := hm0.below hP.bl hmb
      have hcl := HCL.out k hk
      rw [List.length_take] at hcl
      have HSk := Lib.hid (HSn.out k hlt)
      have i1 := l1.items
      have i2 := l2.items
      have i3 := l3.items
      clear hKr hget hfind hR0 hR1 hm1 hm0 l1 l2 l3 hPc
      generalize ds[k] = d at *
      subst hA
      have hod := hEk.ok.od
      have hkey := keyI (k := d.od) (by omega) (by omega)
      have hlk := hm1'.look keyedI Tryz.underlying78 (zeroR wr) hkey
      rw [hgv, Option.getD_some] at hlk
      dsimp only [rowV] at hlk
      obtain ⟨Aw, cw, rfl, -⟩ := i1.form
      obtain ⟨As, cs, rfl, -⟩ := i2.form
      obtain ⟨Ab, cb, rfl, -⟩ := i3.form
      have hOr := Ob.new wr 87 #[.int .i64 d.od, .slice Aw d.wa.length cw, .slice As d.sh.length cs, .slice Ab d.ba.length cb, .map (some d.fb)]
      have hala := (Below.refl wr.heap.size wr).alloc (Nat.le_refl _) (.cells #[.int .i64 d.od, .slice Aw d.wa.length cw, .slice As d.sh.length cs, .slice Ab d.ba.length cb, .map (some d.fb)] 87)
      have hPa := hP.more (Fr' := fun i => FL i ∨ i = wr.heap.size) hala (fun i hi => .inl hi) (fun i hi => ⟨hi.imp_right (fun e => by omega), by rw [World.size_alloc]; rcases hi with h | h; have := hP.mkr.2.2.1 i h; omega; omega⟩)
      have HSW := Lib.hid (show mPutR (numC ds.length ++ cellsR (ds.take k), false) d = (numC ds.length ++ cellsR (ds.take (k + 1)), false) by
        have h1 := encR_len hEk
        have h2 := (numC_len ds.length).2
        rw [mPutR_short (by rw [List.length_append]; omega), HSk.out, List.append_assoc])
      obtain ⟨s0, hs0⟩ : ∃ s0 : List UInt8 × Bool, s0 = (numC ds.length ++ cellsR (ds.take k), false) := ⟨_, rfl⟩
      rw [← hs0] at hPa HSW
      have hwrs : w.heap.size ≤ wr.heap.size := hP.bl.size
      have h3s : W3.heap.size ≤ wr.heap.size := hP.kp.size
      have HFa := Lib.hid (M_fits hEk.ok.wa)
      have HFb := Lib.hid (M_fits hEk.ok.sh)
      have HFc := Lib.hid (M_fits hEk.ok.ba)
      have HMa := Lib.hid ((may_iff _).2 hEk.ok.wa)
      have HMb := Lib.hid ((may_iff _).2 hEk.ok.sh)
      have HMc := Lib.hid ((may_iff _).2 hEk.ok.ba)
      have hrl := hEk.len
      have HRG := Lib.hid hEk.regs
      have I1 := Lib.hid i1
      have I2 := Lib.hid i2
      have I3 := Lib.hid i3
      have HFR := Lib.hid hfrm
      have C1 := Lib.hid (pk_num d.od hPa (by omega) (by omega))
      clear hP hs0 hcl hEk i1 i2 i3 hkey hgv hfrm hm1' hala hPa
      go_wp2_with fail
      refine C1.out.mono ?_
      rintro e W4 ⟨rfl, hP4, hK4⟩
      have hO4 := hK4.ob hOr (.inr rfl)
      have h4s := hK4.size
      rw [World.size_alloc] at h4s
      obtain ⟨q0, q1, q2, q3, q4⟩ := hO4.five
      have hlb := (Below.refl W4.heap.size W4).alloc (Nat.le_refl _) (.cells #[.slice Aw d.wa.length cw, .slice As d.sh.length cs, .slice Ab d.ba.length cb] 30)
      have hOl := Ob.new W4 30 #[.slice Aw d.wa.length cw, .slice As d.sh.length cs, .slice Ab d.ba.length cb]
      have hPb := hP4.more (Fr' := fun i => FL i ∨ i = wr.heap.size ∨ i = W4.heap.size) hlb (fun i hi => .inl hi) (fun i hi => ⟨hi.elim (fun h => .inl (.inl h)) (fun h => h.elim (fun h => .inl (.inr h)) (fun h => .inr (by omega))), by rw [World.size_alloc]; rcases hi with h | h | h; have := hP4.mkr.2.2.1 i (.inl h); omega; omega; omega⟩)
      have HOb := Lib.hid (hO4.alloc (.cells #[.slice Aw d.wa.length cw, .slice As d.sh.length cs, .slice Ab d.ba.length cb] 30))
      have HOl := Lib.hid hOl
      have HPb := Lib.hid hPb
      clear hOr hK4 hP4 hO4 hlb hOl hPb C1 hlk hck gb
      go_wp2
      generalize hrb : wr.heap.size = rb at *
      clear q0 q1 q2 q3 q4
      generalize hlb : W4.heap.size = lb at *
      have HLB := Lib.hid hlb
      clear hlb hrb
      generalize W4.alloc (.cells #[.slice Aw d.wa.length cw, .slice As d.sh.length cs, .slice Ab d.ba.length cb] 30) = Wb at *
      have HSTP := Lib.hid (show mPutR s0 d = mNums (Ce.mPut (put3 (Ce.mPut s0 (numC d.od)) d.wa d.sh d.ba 3) (numC (regs d).length)) (regs d) from rfl)
      go_loopw [55] (fun i wz => ∃ j : Nat, j ≤ 3 ∧ i = .int .i64 j ∧ Pk w W3 FL (fun i => FL i ∨ i = rb ∨ i = lb) w.heap.size (put3 (Ce.mPut s0 (numC d.od)) d.wa d.sh d.ba j) wz ∧ Kept (fun i => FL i ∨ i = rb ∨ i = lb) Wb wz) (fun i _ => 3 - (intOf i).toNat)
      case atStart => exact ⟨0, by omega, rfl, HPb.out, Kept.refl _ _⟩
      case round =>
        obtain ⟨j, hj, rfl, hPj, hKj⟩ := hrel
        have hOlj := hKj.ob HOl.out (.inr (.inr rfl))
        have t0 := hOlj.cell (j := 0) rfl
        have t1 := hOlj.cell (j := 1) rfl
        have t2 := hOlj.cell (j := 2) rfl
        have hjc : j = 0 ∨ j = 1 ∨ j = 2 ∨ j = 3 := by omega
        rcases hjc with rfl | rfl | rfl | rfl
        · have C := Lib.hid (pk_put d.wa _ hPj I1.out HFa.out HMa.out)
          have HKj := Lib.hid hKj
          clear hPj hKj hOlj
          go_wp2_with fail
          refine C.out.mono ?_
          rintro e Wz ⟨rfl, hPz, hKz⟩
          go_wp2
          go_roundw
          case rel => exact ⟨1, by omega, rfl, hPz, HKj.out.trans hKz⟩
          case measure => simp [intOf]
        · have C := Lib.hid (pk_put d.sh _ hPj I2.out HFb.out HMb.out)
          have HKj := Lib.hid hKj
          clear hPj hKj hOlj
          go_wp2_with fail
          refine C.out.mono ?_
          rintro e Wz ⟨rfl, hPz, hKz⟩
          go_wp2
          go_roundw
          case rel => exact ⟨2, by omega, rfl, hPz, HKj.out.trans hKz⟩
          case measure => simp [intOf]
        · have C := Lib.hid (pk_put d.ba _ hPj I3.out HFc.out HMc.out)
          have HKj := Lib.hid hKj
          clear hPj hKj hOlj
          go_wp2_with fail
          refine C.out.mono ?_
          rintro e Wz ⟨rfl, hPz, hKz⟩
          go_wp2
          go_roundw
          case rel => exact ⟨3, by omega, rfl, hPz, HKj.out.trans hKz⟩
          case measure => simp [intOf]
        · have hd55 : decide ((3 : Int) < 3) = false := by decide
          have hOr5 := hKj.ob HOb.out (.inr (.inl rfl))
          have HPj := Lib.hid hPj
          have hfr5 := HFR.out.below hPj.bl (GMap.lt HFR.out)
          have cK := Lib.hid (KsB.keys_calls (some d.fb) wr)
          have cS := KsB.sorted_calls d.fb d.fr wr hfr5 keyedI (by unfold regs at hrl; rw [List.length_map] at hrl; omega)
          rw [show d.fr.map (·.1) = regs d from rfl] at cS
          have CS := Lib.hid cS
          obtain ⟨q0, q1, q2, q3, q4⟩ := hOr5.five
          clear t0 t1 t2 hOlj hPj hKj cS hfr5 hOr5
          go_wp2_with (first
            | (go_at_call 82; refine (callsIn_wide.1 cK.out).mono ?_; rintro e W' ⟨rfl, rfl⟩)
            | (go_at_call 80; refine (callsIn_wide.1 CS.out).mono ?_; rintro e W6 ⟨fv, rfl, hfv, hb6⟩; obtain ⟨Af, cf, rfl, -⟩ := (IntsAt.of_own hfv).form; have hal6 := (Below.refl wr.heap.size wr).alloc (Nat.le_refl _) (.cells #[.map (some d.fb)] 85); have hb56 := hal6.trans (hb6.mono hal6.size); have hs56 := hb56.size; have hP6 := HPj.out.more (Fr' := fun i => (FL i ∨ i = rb ∨ i = lb) ∨ (wr.heap.size ≤ i ∧ i < W6.heap.size)) hb56 (fun i hi => .inl (.inl hi)) (fun i hi => ⟨hi.imp_right (fun h => h.1), hi.elim (fun h => by have := HPj.out.mkr.2.2.1 i h; omega) (fun h => h.2)⟩); have hI6 : IntsAt W6 wr.heap.size W6.heap.size (.slice Af (regs d).length cf) (regs d) := (IntsAt.of_own hfv).wide (lo' := wr.heap.size) (by simp) (Nat.le_refl _); have HI6 := Lib.hid hI6; have C6 := Lib.hid (pk_num (regs d).length hP6 (by omega) (by omega)); clear hfv hb6 hal6 hb56 hP6 hI6 q0 q1 q2 q3 q4)
            | (go_at_call 64; refine C6.out.mono ?_; rintro e W7 ⟨rfl, hP7, hK7⟩))
          have HP7 := Lib.hid hP7
          have HI7 := Lib.hid (fun V (hk : Kept (fun i => (FL i ∨ i = rb ∨ i = lb) ∨ (wr.heap.size ≤ i ∧ i < W6.heap.size)) W7 V) => ((hK7.trans hk).sl HI6.out (fun i h1 h2 => .inr ⟨h1, h2⟩) : IntsAt V wr.heap.size W6.heap.size (.slice Af (regs d).length cf) (regs d)))
          clear hP7 hK7 C6 cK CS
          generalize hwz : wr.heap.size = wz at *
          have HWZ := Lib.hid hwz
          clear hwz
          generalize regs d = rg at *
          generalize put3 (Ce.mPut s0 (numC d.od)) d.wa d.sh d.ba 3 = s3 at *
          generalize hs4 : Ce.mPut s3 (numC rg.length) = s4 at *
          clear hs4
          go_loopw [73] (fun i wy => ∃ j : Nat, j ≤ rg.length ∧ i = .int .i64 j ∧ Pk w W3 FL (fun i => (FL i ∨ i = rb ∨ i = lb) ∨ (wz ≤ i ∧ i < W6.heap.size)) w.heap.size (mNums s4 (rg.take j)) wy ∧ Kept (fun i => (FL i ∨ i = rb ∨ i = lb) ∨ (wz ≤ i ∧ i < W6.heap.size)) W7 wy) (fun i _ => rg.length - (intOf i).toNat)
          case atStart => exact ⟨0, by omega, rfl, HP7.out, Kept.refl _ _⟩
          case round =>
            obtain ⟨j, hj, rfl, hPj, hKj⟩ := hrel
            by_cases hjl : j < rg.length
            · have hd7 : decide ((j : Int) < (rg.length : Int)) = true := by simp; omega
              obtain ⟨fb, fo, rfl, -, -, hcf⟩ := IntsAt.cellAt (HI7.out _ hKj) hjl
              have hge : rg.getD j 0 = rg[j] := by simp [hjl]
              rw [hge] at hcf
              have hrb2 := HRG.out rg[j] (List.getElem_mem hjl)
              have HTS := Lib.hid (show mNums s4 (rg.take (j + 1)) = Ce.mPut (mNums s4 (rg.take j)) (numC rg[j]) by rw [List.take_succ_eq_append_getElem hjl, mNums_snoc])
              generalize rg[j] = x at *
              have C := Lib.hid (pk_num x hPj (by omega) (by omega))
              have HKj := Lib.hid hKj
              clear hPj hKj hge
              go_wp2_with fail
              refine C.out.mono ?_
              rintro e Wy ⟨rfl, hPy, hKy⟩
              go_wp2
              go_roundw
              case rel => exact ⟨j + 1, by omega, by go_num, by rw [HTS.out]; exact hPy, HKj.out.trans hKy⟩
              case measure => simp [intOf]; omega
            · obtain rfl : j = rg.length := by omega
              have hd7 : decide ((rg.length : Int) < (rg.length : Int)) = false := by simp
              rw [List.take_length, ← HSTP.out, HSW.out] at hPj
              have HPF := Lib.hid (hPj.less (Fr' := FL) (fun i hi => hi) (fun i hi => .inl (.inl hi)))
              clear hPj hKj
              go_wp2
              go_roundw
              case rel => exact ⟨k + 1, by omega, by go_num, HPF.out⟩
              case measure => simp [intOf]; omega
    · obtain rfl : k = ds.length := by omega
      have hd : decide ((ds.length : Int) < (ds.length : Int)) = false := by simp
      have hmk := hP.mkr
      rw [List.take_length] at hmk
      have cD := Lib.hid (mdone_calls w.heap.size _ (packR ds, false) wr hmk rfl)
      have HB := Lib.hid hP.bl
      generalize hC : packR ds = C at *
      have HC := Lib.hid hC
      clear hC
      clear hP hPc hmk gb
      go_wp2_with fail
      refine cD.out.mono ?_
      rintro e W5 ⟨⟨u, rfl, hu⟩, hb5⟩
      obtain ⟨Au, cu, rfl, -⟩ := (BytesAt.of_own hu).form
      go_wp2
      go_ret
      exact ⟨⟨_, rfl, by rw [HC.out]; exact ownsRow_wide hu HB.out.size⟩, HB.out.trans (hb5.mono HB.out.size)⟩
end Pc
end Go.Proofs.YtdbkkldgobkjcaaGreat
