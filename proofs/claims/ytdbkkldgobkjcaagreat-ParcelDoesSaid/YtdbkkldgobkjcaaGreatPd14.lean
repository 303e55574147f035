/-
  parcels: the iterator All reads its parcels.
  moves: what nil moves do; the document's Same.
  parcels: what nil parcels do; the document's Same.
  A region that draws its order, inside a round of a range over an iterator: from the walk of Pm.
  parcels: the law's walks: all parcels are gone over, in the document's order.
  parcels: the program's and the document's, side by side.
  from a law's walk to its row: the call returns true, and nothing that was there has turned.
-/
import Derived.Test.YtdbkkldgobkjcaaGreatPd10
import Derived.Test.YtdbkkldgobkjcaaGreatPd13
import Derived.Test.YtdbkkldgobkjcaaGreatPd7
import Derived.Test.YtdbkkldgobkjcaaGreatPd8
import Derived.Test.YtdbkkldgobkjcaaGreatPd4
import Derived.OrdersIn
import Derived.RangeFuncNested
import Derived.Test.YtdbkkldgobkjcaaGreatPd1
import Derived.ProofKit
import Derived.OpenShut
import Derived.JoinedCond
import Derived.Deep.CondSized

set_option linter.unusedVariables false
set_option linter.unusedSimpArgs false
namespace Go.Proofs.YtdbkkldgobkjcaaGreat
open Go.RowKit Go.Maps
namespace Pc
open It Mv
attribute [local go_sem] Oper.semAt_some

theorem LiAt.kpx {X F : Nat → Prop} {A B : World} {v : Value} {l : List It.Item} (h : LiAt A F v l) (hk : KpX X A B) (hF : ∀ i, F i → ¬ X i) : LiAt B F v l := by
  obtain ⟨lo, hi, h1, h2, h3⟩ := h
  exact ⟨lo, hi, hk.sl h1 (fun i a b => hF i (h3 i a b)), Nat.le_trans h2 hk.size, h3⟩
theorem RowAt.kpx {X F : Nat → Prop} {A B : World} {val : Value} {d : Row} (h : RowAt A F val d) (hk : KpX X A B) (hF : ∀ i, F i → ¬ X i) : RowAt B F val d := by
  obtain ⟨v1, v2, v3, e, h1, h2, h3⟩ := h
  exact ⟨v1, v2, v3, e, h1.kpx hk hF, h2.kpx hk hF, h3.kpx hk hF⟩
theorem Rel.kpx {X F : Nat → Prop} {A B : World} (hk : KpX X A B) (hF : ∀ i, F i → ¬ X i) : ∀ {m : List (Int × Value)} {ds : List Row}, Rel A F m ds → Rel B F m ds
  | [], [], _ => trivial
  | _ :: _, _ :: _, h => ⟨h.1, h.2.1.kpx hk hF, Rel.kpx hk hF h.2.2⟩
  | [], _ :: _, h => h.elim
  | _ :: _, [], h => h.elim
theorem PcAt.kpx {X : Nat → Prop} {A B : World} {base b mb : Nat} {ds : List Row} (h : PcAt A base b mb X ds) (hk : KpX X A B) : PcAt B base b mb X ds := by
  obtain ⟨m, hm, hR⟩ := h.map
  exact ⟨hk.ob h.ob h.nx.1, ⟨m, hk.gmap hm h.nx.2, hR.kpx hk (fun i hi => hi.2.2.1)⟩, fun d hd => hk.gmap (h.frm d hd) (h.sep d hd).2.2.1, h.apart, h.sep, h.ne, h.lo, h.nx, fun i hi => Nat.lt_of_lt_of_le (h.xl i hi) hk.size, h.ok⟩
theorem findR_sorted : ∀ {ds : List Row}, SortedR ds → ∀ (k : Nat) (h : k < ds.length), findR ds ds[k].od = some ds[k]
  | [], _, k, h => by simp at h
  | d :: r, hp, 0, _ => by rw [findR_cons]; exact if_pos rfl
  | d :: r, hp, k + 1, h => by
    replace hp := List.pairwise_cons.1 hp
    have hk : k < r.length := by simpa using h
    rw [findR_cons, List.getElem_cons_succ, if_neg (fun e => by have := hp.1 r[k] (List.getElem_mem hk); omega)]
    exact findR_sorted hp.2 k hk

theorem fieldP (x0 x1 x2 x3 x4 : Value) (W : World) : (Instr.field 87 (.agg #[x0, x1, x2, x3, x4]) 0).run Tryz.prog W = .ok (.agg #[x0, x1, x2, x3]) W := by kernel_rfl

/-- how a parcel that is handed over reads: its lists lie in blocks from lo on -/
def RdP (lo : Nat) (d : Row) (v : Value) (W : World) : Prop := ∃ u1 u2 u3, v = pclV d.od u1 u2 u3 ∧ ItemsAt W lo W.heap.size u1 d.wa ∧ ItemsAt W lo W.heap.size u2 d.sh ∧ ItemsAt W lo W.heap.size u3 d.ba

set_option maxRecDepth 100000 in
set_option maxHeartbeats 4000000 in
theorem allP_reads (n : Nat) (hn : 1 ≤ n) (base b mb Bs : Nat) (X : Nat → Prop) (ds : List Row) (w : World) (h : PcAt w base b mb X ds) (hbs : Ob w Bs 23 #[.pointer (some ⟨b, 0, none⟩)]) (hxs : ¬ X Bs) :
    Rr.Reads Fence.wide n Tryz.prog 85 #[.pointer (some ⟨Bs, 0, none⟩)] (RdP w.heap.size) (KpX X) (fun xs => xs = ds) (fun pre => pre <+: ds) (fun pre d => pre ++ [d] <+: ds) w := by
  intro l J Jx W hW hJ hJx hY h0
  have hM := h.same hW
  have hB := hbs.same hW
  have cB : W.cell? ⟨Bs, 0, none⟩ = some (.pointer (some ⟨b, 0, none⟩)) := hB.cell (j := 0) rfl
  have gb : W.cell? ⟨b, 0, none⟩ = some (.map (some mb)) := hM.ob.cell (j := 0) rfl
  have cMd := Lib.hid (made_calls b mb W gb)
  obtain ⟨m, hm, hR⟩ := hM.map
  have hlen := hM.len
  have hml := hR.length
  have cK := Lib.hid (KsR.keys_calls (some mb) W)
  have cS := KsR.sorted_calls mb m W hm keyedI (by omega)
  rw [hR.keys] at cS
  have CS := Lib.hid cS
  have HM := Lib.hid hM
  have HB := Lib.hid hB
  have hws := hW.size
  clear cS hm hR hml
  refine callsIn_of_wp Tryz.func85 rfl trivial ?_ rfl
  simp only [Tryz.ntmps85, List.size_toArray, List.length_cons, List.length_nil, Nat.reduceAdd, Nat.reduceSub, Array.replicate_succ, Array.replicate_zero, List.push_toArray, List.append_toArray, List.nil_append, List.cons_append]
  gi_wp2_with (first
    | (refine ⟨trivial, ?_⟩; gi_at_call 43; refine (callsIn_wide.2 cMd.out).mono ?_; rintro e W' ⟨rfl, rfl⟩)
    | (refine ⟨trivial, ?_⟩; gi_at_call 81; refine (callsIn_wide.2 (callsIn_wide.1 cK.out)).mono ?_; rintro e W' ⟨rfl, rfl⟩)
    | (refine ⟨trivial, ?_⟩; gi_at_call 80; refine (callsIn_wide.2 (callsIn_wide.1 CS.out)).mono ?_; rintro e W1 ⟨kv, rfl, hkv, hb1⟩; obtain ⟨Ak, ck, rfl, -⟩ := (IntsAt.of_own hkv).form))
  have hal := (Below.refl W.heap.size W).alloc (Nat.le_refl _) (.cells #[.map (some mb)] 78)
  have hb01 : Below W.heap.size W W1 := hal.trans (hb1.mono hal.size)
  have hs01 := hb01.size
  have hJ1 : J [] W1 := hJ _ _ _ none h0 (only_of_below hb01 none) (fun r e => by cases e)
  have hM1 := HM.out.same hb01
  have hB1 := HB.out.same hb01
  have hK1 : IntsAt W1 W.heap.size W1.heap.size (.slice Ak ds.length ck) (ds.map (·.od)) := by
    have := (IntsAt.of_own hkv).wide (lo' := W.heap.size) (by simp) (Nat.le_refl _)
    rwa [List.length_map] at this
  have HXL := Lib.hid HM.out.xl
  clear hkv hal hb1 cK CS cMd cB gb
  gi_loopw [4, 15] (fun _ i wr => ∃ k : Nat, k ≤ ds.length ∧ i = .int .i64 k ∧ J (ds.take k) wr ∧ PcAt wr base b mb X ds ∧ Ob wr Bs 23 #[.pointer (some ⟨b, 0, none⟩)] ∧ IntsAt wr W.heap.size W1.heap.size (.slice Ak ds.length ck) (ds.map (·.od)) ∧ W1.heap.size ≤ wr.heap.size) (fun _ i _ => ds.length - (intOf i).toNat)
  case atStart => exact ⟨0, by omega, rfl, hJ1, hM1, hB1, hK1, Nat.le_refl _⟩
  case round =>
    obtain ⟨k, hk, rfl, hJr, hMr, hBr, hKr, hsr⟩ := hrel
    clear hJ1 hM1 hB1 hK1
    by_cases hlt : k < ds.length
    · obtain ⟨kb, ko, hA, hk1, hk2, hck⟩ := hKr.cellAt (j := k) (by simpa using hlt)
      have hget : (ds.map (·.od)).getD k 0 = ds[k].od := by simp [hlt]
      rw [hget] at hck
      have hd : decide (k < ds.length) = true := by simpa using hlt
      have hfind := findR_sorted hMr.sorted k hlt
      have hok := hMr.ok ds[k] (List.getElem_mem hlt)
      have cB : wr.cell? ⟨Bs, 0, none⟩ = some (.pointer (some ⟨b, 0, none⟩)) := hBr.cell (j := 0) rfl
      have gb : wr.cell? ⟨b, 0, none⟩ = some (.map (some mb)) := hMr.ob.cell (j := 0) rfl
      obtain ⟨m, hm, hR⟩ := hMr.map
      obtain ⟨val, hg, v1, v2, v3, ev, i1, i2, i3⟩ := hR.some hfind
      have hlk := hm.look (tm := 78) keyedI Tryz.underlying78 (zeroR _) (keyI (k := ds[k].od) (by have := hok.od; omega) (by have := hok.od; omega))
      rw [hg, Option.getD_some, ev] at hlk
      simp only [rowV] at hlk
      have cC := copied_calls ds[k].od ds[k].wa ds[k].sh ds[k].ba v1 v2 v3 wr i1.items i2.items i3.items (by have := hok.wa.len; omega) (by have := hok.sh.len; omega) (by have := hok.ba.len; omega)
      obtain ⟨A1, c1, rfl, -⟩ := i1.items.form
      obtain ⟨A2, c2, rfl, -⟩ := i2.items.form
      obtain ⟨A3, c3, rfl, -⟩ := i3.items.form
      have hlen3 : ds.take k ++ [ds[k]] <+: ds := by
        rw [← List.take_succ_eq_append_getElem hlt]
        exact List.take_prefix _ _
      have HTk := Lib.hid (show ds.take (k + 1) = ds.take k ++ [ds[k]] from List.take_succ_eq_append_getElem hlt)
      simp only [pclV] at cC
      have CC := Lib.hid cC
      have HMr := Lib.hid hMr
      have HBr := Lib.hid hBr
      have HKr := Lib.hid hKr
      have HJr := Lib.hid hJr
      clear cC hfind hMr hBr hKr hJr hget hok hm hR hg ev i1 i2 i3
      generalize ds[k] = d at *
      obtain ⟨od, wa, sh, ba, fr, fb⟩ := d
      subst hA
      dsimp only at hck CC hlk
      have hlw : w.heap.size ≤ wr.heap.size := by omega
      have hfd := fieldP (.int .i64 od) (.slice A1 wa.length c1) (.slice A2 sh.length c2) (.slice A3 ba.length c3) (.map (some fb)) wr
      have HY := Lib.hid (fun W1 v (h1 : J (ds.take k) W1) h3 => hY (ds.take k) ⟨od, wa, sh, ba, fr, fb⟩ v W1 h1 hlen3 h3)
      gi_wp2_with (refine ⟨trivial, ?_⟩; gi_at_call 52; refine (callsIn_wide.2 CC.out).mono ?_; rintro e W2 ⟨⟨u1, u2, u3, rfl, o1, o2, o3⟩, hb3⟩; obtain ⟨B1, d1, rfl, -⟩ := (ItemsAt.of_own o1).form; obtain ⟨B2, d2, rfl, -⟩ := (ItemsAt.of_own o2).form; obtain ⟨B3, d3, rfl, -⟩ := (ItemsAt.of_own o3).form)
      have hJ3 := hJ _ _ _ none HJr.out (only_of_below hb3 none) (fun r e => by cases e)
      have hR3 : RdP w.heap.size ⟨od, wa, sh, ba, fr, fb⟩ (pclV od (.slice B1 wa.length d1) (.slice B2 sh.length d2) (.slice B3 ba.length d3)) W2 := ⟨_, _, _, rfl, (ItemsAt.of_own o1).wide hlw (Nat.le_refl _), (ItemsAt.of_own o2).wide hlw (Nat.le_refl _), (ItemsAt.of_own o3).wide hlw (Nat.le_refl _)⟩
      obtain ⟨fn, tmps, assign, body, hy, hR⟩ := HY.out _ _ hJ3 hR3
      dsimp only [pclV] at hy
      rw [show Sem.run _ _ _ = _ from hy]
      gi_wp2
      refine hR.mono ?_
      have hM3 := HMr.out.same hb3
      have hB3 := HBr.out.same hb3
      have hK3 := Sl.below HKr.out (hb3.mono hsr)
      have hs3 := hb3.size
      clear hJ3 hR3 o1 o2 o3 hlk cB gb hfd
      rintro e W4 (⟨rfl, hJ4, hk4⟩ | ⟨rfl, hJx4⟩)
      · rw [← HTk.out] at hJ4
        gi_wp2
        go_roundw
        case rel => exact ⟨k + 1, by omega, by go_num, hJ4, hM3.kpx hk4, hk4.ob hB3 hxs, hk4.sl hK3 (fun i h1 h2 hx => by have := HXL.out i hx; omega), by have := hk4.size; omega⟩
        case measure => simp [intOf]; omega
      · rw [← HTk.out] at hJx4
        gi_wp2
        refine bodyPost_ret (results_none rfl _ _ _) rfl ?_
        exact ⟨⟨_, rfl⟩, .inr ⟨_, List.take_prefix _ _, hJx4⟩⟩
    · obtain rfl : k = ds.length := by omega
      have hd : decide (ds.length < ds.length) = false := by simp
      rw [List.take_length] at hJr
      gi_wp2
      go_end0
      exact ⟨⟨_, rfl⟩, .inl ⟨_, rfl, hJr⟩⟩
end Pc
end Go.Proofs.YtdbkkldgobkjcaaGreat

namespace Go.Proofs.YtdbkkldgobkjcaaGreat
open Go.RowKit Go.Maps
namespace Mv
open It
attribute [local go_sem] Oper.semAt_some

theorem go_nil (mv fr to_ : Int) (lv : Value) (w : World) :
    Calls Tryz.prog 26 #[.pointer none, .int .i64 mv, .int .i64 fr, .int .i64 to_, lv] w fun e w' => e = .returned (.int .i64 6) ∧ w = w' := by
  have cM := Lib.hid (made_nil w)
  go_enter Tryz.func26, Tryz.ntmps26
  go_wp2_with (go_at_call 58; refine cM.out.mono ?_; rintro e W ⟨rfl, rfl⟩)
  go_ret
  exact ⟨rfl, rfl⟩
theorem come_nil (k : Int) (w : World) :
    Calls Tryz.prog 28 #[.pointer none, .int .i64 k] w fun e w' => e = .returned (.tuple #[.slice none 0 0, .int .i64 6]) ∧ w = w' := by
  have cM := Lib.hid (made_nil w)
  go_enter Tryz.func28, Tryz.ntmps28
  go_wp2_with (go_at_call 58; refine cM.out.mono ?_; rintro e W ⟨rfl, rfl⟩)
  go_ret2
  exact ⟨rfl, rfl⟩
theorem len_nil (w : World) :
    Calls Tryz.prog 57 #[.pointer none] w fun e w' => e = .returned (.int .i64 0) ∧ w = w' := by
  have cM := Lib.hid (made_nil w)
  go_enter Tryz.func57, Tryz.ntmps57
  go_wp2_with (go_at_call 58; refine cM.out.mono ?_; rintro e W ⟨rfl, rfl⟩)
  go_ret
  exact ⟨rfl, rfl⟩
theorem move_nil (k : Int) (w : World) :
    Calls Tryz.prog 62 #[.pointer none, .int .i64 k] w fun e w' => e = .returned (.tuple #[wayV way0 (.slice none 0 0), .bool false]) ∧ Below w.heap.size w w' := by
  have cM := Lib.hid (made_nil (w.alloc (.cells #[.int .i64 0, .int .i64 0, .int .i64 0, .slice none 0 0, .bool false] 108)))
  go_enter Tryz.func62, Tryz.ntmps62
  go_wp2_with (go_at_call 58; refine cM.out.mono ?_; rintro e W ⟨rfl, rfl⟩)
  have hO := Ob.new w 108 #[.int .i64 0, .int .i64 0, .int .i64 0, .slice none 0 0, .bool false]
  obtain ⟨q0, q1, q2, q3, q4⟩ := hO.five
  refine bodyPost_ret (v := .tuple #[wayV way0 (.slice none 0 0), .bool false]) ?_ rfl ⟨rfl, (Below.refl _ w).alloc (Nat.le_refl _) _⟩
  simp [results, Tryz.f62, go_sem, q0, q1, q2, q3, q4, wayV, way0]
theorem forget_nil (k : Int) (w : World) :
    Calls Tryz.prog 30 #[.pointer none, .int .i64 k] w fun e w' => e = .returned (.int .i64 6) ∧ Below w.heap.size w w' := by
  have cV := Lib.hid (move_nil k w)
  go_enter Tryz.func30, Tryz.ntmps30
  go_wp2_with fail
  refine cV.out.mono ?_
  rintro e W ⟨rfl, hb⟩
  simp only [wayV, way0]
  go_wp2_with fail
  refine (made_nil _).mono ?_
  rintro e W2 ⟨rfl, rfl⟩
  go_wp2
  go_ret
  exact ⟨rfl, hb.alloc hb.size _⟩

theorem all_nil (n : Nat) (hn : 1 ≤ n) (Bs : Nat) (w : World) (hbs : Ob w Bs 53 #[.pointer none]) :
    Rr.Reads Fence.wide n Tryz.prog 97 #[.pointer (some ⟨Bs, 0, none⟩)] (fun (_ : Unit) (_ : Value) (_ : World) => True) (Below w.heap.size) (fun xs => xs = []) (fun _ => False) (fun _ _ => False) w := by
  intro l J Jx W hW hJ hJx hY h0
  have hB := hbs.same hW
  have cB : W.cell? ⟨Bs, 0, none⟩ = some (.pointer none) := hB.cell (j := 0) rfl
  have cM := Lib.hid (made_nil W)
  refine callsIn_of_wp Tryz.func97 rfl trivial ?_ rfl
  simp only [Tryz.ntmps97, List.size_toArray, List.length_cons, List.length_nil, Nat.reduceAdd, Nat.reduceSub, Array.replicate_succ, Array.replicate_zero, List.push_toArray, List.append_toArray, List.nil_append, List.cons_append]
  clear hY
  gi_wp2_with (refine ⟨trivial, ?_⟩; gi_at_call 58; refine (callsIn_wide.2 cM.out).mono ?_; rintro e W' ⟨rfl, rfl⟩)
  refine bodyPost_ret (results_none rfl _ _ _) rfl ?_
  exact ⟨⟨_, rfl⟩, .inl ⟨_, rfl, h0⟩⟩

set_option maxRecDepth 100000 in
set_option maxHeartbeats 4000000 in
theorem under_nil (fr to_ : Int) (w : World) :
    Calls Tryz.prog 56 #[.pointer none, .int .i64 fr, .int .i64 to_] w fun e w' => e = .returned (.slice none 0 0) ∧ Below w.heap.size w w' := by
  refine (callsIn_wide (n := 6)).1 ?_
  refine callsIn_of_wp_marks Tryz.func56 rfl trivial ?_ rfl
  simp only [Tryz.ntmps56, List.size_toArray, List.length_cons, List.length_nil, Nat.reduceAdd, Nat.reduceSub, Array.replicate_succ, Array.replicate_zero, List.push_toArray, List.append_toArray, List.nil_append, List.cons_append]
  gi_wp2_with (refine ⟨trivial, ?_⟩; gi_at_call 55; refine (callsIn_wide.2 (all_calls _ _)).mono ?_; rintro e w' ⟨rfl, rfl⟩)
  have a1 := Below.refl w.heap.size w
  have a2 := a1.alloc (Nat.le_refl _) (.cells #[.int .i64 fr] 3)
  have a3 := a2.alloc (by simp) (.cells #[.int .i64 to_] 3)
  have b2 := Ob.new ((w.alloc (.cells #[.int .i64 fr] 3)).alloc (.cells #[.int .i64 to_] 3)) 30 #[.slice none 0 0]
  have a4 := a3.alloc (by simp; omega) (.cells #[.slice none 0 0] 30)
  have b3 := Ob.new (((w.alloc (.cells #[.int .i64 fr] 3)).alloc (.cells #[.int .i64 to_] 3)).alloc (.cells #[.slice none 0 0] 30)) 30 #[.slice none 0 0]
  have a5 := a4.alloc (by simp; omega) (.cells #[.slice none 0 0] 30)
  have b4 := Ob.new ((((w.alloc (.cells #[.int .i64 fr] 3)).alloc (.cells #[.int .i64 to_] 3)).alloc (.cells #[.slice none 0 0] 30)).alloc (.cells #[.slice none 0 0] 30)) 53 #[.pointer none]
  have hB5 := a5.alloc (by simp; omega) (.cells #[.pointer none] 53)
  replace b2 := (b2.alloc (.cells #[.slice none 0 0] 30)).alloc (.cells #[.pointer none] 53)
  replace b3 := b3.alloc (.cells #[.pointer none] 53)
  simp only [World.size_alloc] at b2 b3 b4
  have hsz5 : w.heap.size + 5 = (((((w.alloc (.cells #[.int .i64 fr] 3)).alloc (.cells #[.int .i64 to_] 3)).alloc (.cells #[.slice none 0 0] 30)).alloc (.cells #[.slice none 0 0] 30)).alloc (.cells #[.pointer none] 53)).heap.size := by simp
  clear a1 a2 a3 a4 a5
  generalize (((((w.alloc (.cells #[.int .i64 fr] 3)).alloc (.cells #[.int .i64 to_] 3)).alloc (.cells #[.slice none 0 0] 30)).alloc (.cells #[.slice none 0 0] 30)).alloc (.cells #[.pointer none] 53)) = w5 at *
  refine Rr.range_reads (n := 6) rfl (by omega) (gf := 97) rfl trivial (enters_of Tryz.func97 (by kernel_rfl) rfl)
    (all_nil 5 (by omega) (w.heap.size + 1 + 1 + 1 + 1) w5 b4) (Below.refl _ _) (fun h k => h.trans k) (fun W l r r' hl h => belowK_b (Nat.le_refl _) W l _ _ hl h rfl rfl) rfl
    (fun _ W => Ob W (w.heap.size + 1 + 1) 30 #[.slice none 0 0] ∧ Below w.heap.size w5 W ∧ Ob W (w.heap.size + 1 + 1 + 1) 30 #[.slice none 0 0])
    (fun _ _ _ => False)
    (fun s A B row hs hg hr => ⟨ob_keep hs.1 hg (fun r e => (hr r e).2), ownFrom_below (B := w5.heap.size) (by omega) (by omega) s A B row hs.2.1 hg hr, ob_keep hs.2.2 hg (fun r e => (hr r e).2)⟩)
    (fun c s A B row hs hg hr => hs.elim)
    ⟨b2, Below.refl _ _, b3⟩ ?round ?done ?stop
  case round => exact fun l pre d v W _ _ h => h.elim
  case stop => exact fun D c pre W _ h => h.elim
  case done =>
    rintro D xs W hD - ⟨hb2, hB, hb3⟩ hK
    have c3 := hb3.cell (j := 0) (v := .slice none 0 0) rfl
    have c2 := hb2.cell (j := 0) (v := .slice none 0 0) rfl
    have f2 := hb2.frozen 0
    have hb22 := hb2.set 0 (.slice none 0 0)
    have hBB := hB.grown (grownBy_set W (w.heap.size + 1 + 1) 0 (.slice none 0 0)) (by have := hB.size; omega) (fun k e => by cases e; omega)
    have hK2 : (W.setCell ⟨w.heap.size + 1 + 1, 0, none⟩ (.slice none 0 0)).heap[D]? = some (.deferred (some [])) := ((grownBy_set W (w.heap.size + 1 + 1) 0 (.slice none 0 0)).block D (Array.getElem?_eq_some_iff.1 hK).1 (fun e => by cases e; omega)).trans hK
    gi_wp2
    refine ⟨by simp, .inl ⟨_, _, rfl, run_takeDeferred hK2, ?_⟩⟩
    have c4 := (boxed_end hb22 hK2).cell
    refine ⟨.slice none 0 0, ?_, rfl, below_end (hB5.trans hBB) (by omega) hK2⟩
    simp [results, Tryz.f56, go_sem, c4]

/-- the document's Same of two moves -/
def sameW (a b : Way) : Bool := decide (a.mv = b.mv) && decide (a.fr = b.fr) && decide (a.to_ = b.to_) && decide (a.l = b.l) && (a.came == b.came)
theorem sameW_iff (a b : Way) : sameW a b = true ↔ a = b := by
  obtain ⟨a1, a2, a3, a4, a5⟩ := a
  obtain ⟨b1, b2, b3, b4, b5⟩ := b
  simp [sameW, and_assoc]

set_option maxRecDepth 100000 in
set_option maxHeartbeats 4000000 in
theorem sameW_calls (a b : Way) (va vb : Value) (w : World) (ha : ItemsAt w 0 w.heap.size va a.l) (hb : ItemsAt w 0 w.heap.size vb b.l) :
    Calls Tryz.prog 76 #[wayV a va, wayV b vb] w fun e w' => e = .returned (.bool (sameW a b)) ∧ Below w.heap.size w w' := by
  obtain ⟨A1, c1, rfl, -⟩ := ha.form
  obtain ⟨A2, c2, rfl, -⟩ := hb.form
  have hB0 : Below w.heap.size w ((w.alloc (.cells #[.int .i64 a.mv, .int .i64 a.fr, .int .i64 a.to_, .slice A1 a.l.length c1, .bool a.came] 108)).alloc (.cells #[.int .i64 b.mv, .int .i64 b.fr, .int .i64 b.to_, .slice A2 b.l.length c2, .bool b.came] 108)) := ((Below.refl _ w).alloc (Nat.le_refl _) _).alloc (by simp) _
  have hO1 := (Ob.new w 108 #[.int .i64 a.mv, .int .i64 a.fr, .int .i64 a.to_, .slice A1 a.l.length c1, .bool a.came]).alloc (.cells #[.int .i64 b.mv, .int .i64 b.fr, .int .i64 b.to_, .slice A2 b.l.length c2, .bool b.came] 108)
  have hO2 := Ob.new (w.alloc (.cells #[.int .i64 a.mv, .int .i64 a.fr, .int .i64 a.to_, .slice A1 a.l.length c1, .bool a.came] 108)) 108 #[.int .i64 b.mv, .int .i64 b.fr, .int .i64 b.to_, .slice A2 b.l.length c2, .bool b.came]
  simp only [World.size_alloc] at hO2
  have ha2 := ha.mono hB0 hB0.size
  have hb2 := hb.mono hB0 hB0.size
  have cS := refsame_calls a.l b.l _ _ _ ha2 hb2
  have hSm : sameW a b = (decide (a.mv = b.mv) && decide (a.fr = b.fr) && decide (a.to_ = b.to_) && decide (a.l = b.l) && (a.came == b.came)) := rfl
  generalize decide (a.l = b.l) = sl at cS hSm
  generalize sameW a b = S at *
  generalize a.l.length = n1 at *
  generalize b.l.length = n2 at *
  obtain ⟨amv, afr, ato, al, ac⟩ := a
  obtain ⟨bmv, bfr, bto, bl, bc⟩ := b
  dsimp only [wayV] at *
  clear ha2 hb2 ha hb
  have CS := Lib.hid cS
  have HB0 := Lib.hid hB0
  have HSm := Lib.hid hSm
  clear cS hB0 hSm hO1 hO2
  by_cases e1 : amv = bmv
  case neg =>
    have q1 : (amv == bmv) = false := by simpa using e1
    go_enter Tryz.func76, Tryz.ntmps76
    go_wp2
    go_ret
    exact ⟨ret1 (boo (by rw [HSm.out]; simp [e1])), HB0.out⟩
  case pos =>
  subst e1
  by_cases e2 : afr = bfr
  case neg =>
    have q2 : (afr == bfr) = false := by simpa using e2
    go_enter Tryz.func76, Tryz.ntmps76
    go_wp2
    go_ret
    exact ⟨ret1 (boo (by rw [HSm.out]; simp [e2])), HB0.out⟩
  case pos =>
  subst e2
  by_cases e3 : ato = bto
  case neg =>
    have q3 : (ato == bto) = false := by simpa using e3
    go_enter Tryz.func76, Tryz.ntmps76
    go_wp2
    go_ret
    exact ⟨ret1 (boo (by rw [HSm.out]; simp [e3])), HB0.out⟩
  case pos =>
  subst e3
  have HS2 := Lib.hid (show S = (sl && ac == bc) by rw [HSm.out]; simp)
  clear HSm
  cases sl with
  | false =>
    go_enter Tryz.func76, Tryz.ntmps76
    go_wp2_with (go_at_call 21; refine CS.out.mono ?_; rintro e W ⟨rfl, hb1⟩)
    go_ret
    exact ⟨ret1 (boo (by rw [HS2.out]; simp)), HB0.out.trans (hb1.mono HB0.out.size)⟩
  | true =>
    go_enter Tryz.func76, Tryz.ntmps76
    go_wp2_with fail
    refine CS.out.mono ?_
    rintro e W ⟨rfl, hb1⟩
    have hO1 := (((Ob.new w 108 #[.int .i64 amv, .int .i64 afr, .int .i64 ato, .slice A1 n1 c1, .bool ac]).alloc (.cells #[.int .i64 amv, .int .i64 afr, .int .i64 ato, .slice A2 n2 c2, .bool bc] 108)).same hb1).cell (j := 4) (v := .bool ac) rfl
    have hO2 := Ob.new (w.alloc (.cells #[.int .i64 amv, .int .i64 afr, .int .i64 ato, .slice A1 n1 c1, .bool ac] 108)) 108 #[.int .i64 amv, .int .i64 afr, .int .i64 ato, .slice A2 n2 c2, .bool bc]
    simp only [World.size_alloc] at hO2
    replace hO2 := (hO2.same hb1).cell (j := 4) (v := .bool bc) rfl
    go_wp2
    go_ret
    exact ⟨ret1 (boo (by rw [HS2.out]; simp)), HB0.out.trans (hb1.mono HB0.out.size)⟩
end Mv
end Go.Proofs.YtdbkkldgobkjcaaGreat

namespace Go.Proofs.YtdbkkldgobkjcaaGreat
open Go.RowKit Go.Maps
namespace Pc
open It Mv
attribute [local go_sem] Oper.semAt_some

theorem open_nil (od : Int) (lv : Value) (w : World) :
    Calls Tryz.prog 9 #[.pointer none, .int .i64 od, lv] w fun e w' => e = .returned (.int .i64 6) ∧ w = w' := by
  have cM := Lib.hid (made_nil w)
  go_enter Tryz.func9, Tryz.ntmps9
  go_wp2_with (go_at_call 43; refine cM.out.mono ?_; rintro e W ⟨rfl, rfl⟩)
  go_ret
  exact ⟨rfl, rfl⟩
theorem len_nil (w : World) :
    Calls Tryz.prog 42 #[.pointer none] w fun e w' => e = .returned (.int .i64 0) ∧ w = w' := by
  have cM := Lib.hid (made_nil w)
  go_enter Tryz.func42, Tryz.ntmps42
  go_wp2_with (go_at_call 43; refine cM.out.mono ?_; rintro e W ⟨rfl, rfl⟩)
  go_ret
  exact ⟨rfl, rfl⟩
set_option maxRecDepth 100000 in
set_option maxHeartbeats 2000000 in
theorem row_nil (od : Int) (lv : Value) (w : World) :
    Calls Tryz.prog 47 #[.pointer none, .int .i64 od, lv] w fun e w' => e = .returned (.tuple #[zrow, .int .i64 6]) ∧ Below w.heap.size w w' := by
  have cM := Lib.hid (made_nil (w.alloc (.cells #[.int .i64 0, .slice none 0 0, .slice none 0 0, .slice none 0 0, .map none] 87)))
  have hO := Ob.new w 87 #[.int .i64 0, .slice none 0 0, .slice none 0 0, .slice none 0 0, .map none]
  have hal := (Below.refl w.heap.size w).alloc (Nat.le_refl _) (.cells #[.int .i64 0, .slice none 0 0, .slice none 0 0, .slice none 0 0, .map none] 87)
  obtain ⟨q0, q1, q2, q3, q4⟩ := hO.five
  obtain ⟨f0, f1, f2, f3, f4⟩ := hO.free5
  go_enter Tryz.func47, Tryz.ntmps47
  go_wp2_with (go_at_call 43; refine cM.out.mono ?_; rintro e W ⟨rfl, rfl⟩)
  refine bodyPost_ret (v := .tuple #[zrow, .int .i64 6]) ?_ rfl ⟨rfl, hal⟩
  simp [results, Tryz.f47, go_sem, q0, q1, q2, q3, q4, zrow]
theorem ship_nil (od r : Int) (lv : Value) (w : World) :
    Calls Tryz.prog 11 #[.pointer none, .int .i64 od, .int .i64 r, lv] w fun e w' => e = .returned (.int .i64 6) ∧ Below w.heap.size w w' := by
  have cM := Lib.hid (made_nil w)
  have cR := row_nil od lv w
  simp only [zrow] at cR
  have CR := Lib.hid cR
  clear cR
  go_enter Tryz.func11, Tryz.ntmps11
  go_wp2_with (go_at_call 43; refine cM.out.mono ?_; rintro e W ⟨rfl, rfl⟩)
  refine CR.out.mono ?_
  rintro e W ⟨rfl, hb⟩
  go_wp2
  go_ret
  exact ⟨rfl, hb.alloc hb.size _⟩
theorem back_nil (od : Int) (lv : Value) (w : World) :
    Calls Tryz.prog 13 #[.pointer none, .int .i64 od, lv] w fun e w' => e = .returned (.int .i64 6) ∧ Below w.heap.size w w' := by
  have cR := row_nil od lv w
  simp only [zrow] at cR
  have CR := Lib.hid cR
  clear cR
  go_enter Tryz.func13, Tryz.ntmps13
  go_wp2_with fail
  refine CR.out.mono ?_
  rintro e W ⟨rfl, hb⟩
  go_wp2
  go_ret
  exact ⟨rfl, hb.alloc hb.size _⟩
theorem undo_nil (od : Int) (lv : Value) (w : World) :
    Calls Tryz.prog 15 #[.pointer none, .int .i64 od, lv] w fun e w' => e = .returned (.int .i64 6) ∧ Below w.heap.size w w' := by
  have cR := row_nil od lv w
  simp only [zrow] at cR
  have CR := Lib.hid cR
  clear cR
  go_enter Tryz.func15, Tryz.ntmps15
  go_wp2_with fail
  refine CR.out.mono ?_
  rintro e W ⟨rfl, hb⟩
  go_wp2
  go_ret
  exact ⟨rfl, hb.alloc hb.size _⟩
set_option maxRecDepth 100000 in
set_option maxHeartbeats 2000000 in
theorem parcel_nil (od : Int) (w : World) :
    Calls Tryz.prog 17 #[.pointer none, .int .i64 od] w fun e w' => e = .returned (.tuple #[pclV 0 (.slice none 0 0) (.slice none 0 0) (.slice none 0 0), .bool false]) ∧ Below w.heap.size w w' := by
  have hal := (Below.refl w.heap.size w).alloc (Nat.le_refl _) (.cells #[.int .i64 0, .slice none 0 0, .slice none 0 0, .slice none 0 0] 39)
  have hO1 := Ob.new w 39 #[.int .i64 0, .slice none 0 0, .slice none 0 0, .slice none 0 0]
  have cR := row_nil od (.slice none 0 0) (w.alloc (.cells #[.int .i64 0, .slice none 0 0, .slice none 0 0, .slice none 0 0] 39))
  simp only [zrow] at cR
  have CR := Lib.hid cR
  clear cR
  dsimp only [pclV]
  go_enter Tryz.func17, Tryz.ntmps17
  go_wp2_with fail
  refine CR.out.mono ?_
  rintro e W ⟨rfl, hb1⟩
  replace hO1 := hO1.same hb1
  have hB := hal.trans (hb1.mono hal.size)
  obtain ⟨q0, q1, q2, q3⟩ := (hO1.alloc (.cells #[.int .i64 0, .slice none 0 0, .slice none 0 0, .slice none 0 0, .map none] 87)).four
  obtain ⟨f0, f1, f2, f3⟩ := (hO1.alloc (.cells #[.int .i64 0, .slice none 0 0, .slice none 0 0, .slice none 0 0, .map none] 87)).free4
  go_wp2
  have hO2 := (hO1.alloc (.cells #[.int .i64 0, .slice none 0 0, .slice none 0 0, .slice none 0 0, .map none] 87)).set4 (.int .i64 0) (.slice none 0 0) (.slice none 0 0) (.slice none 0 0)
  obtain ⟨p0, p1, p2, p3⟩ := hO2.four
  have hB2 := (hB.alloc hB.size (.cells #[.int .i64 0, .slice none 0 0, .slice none 0 0, .slice none 0 0, .map none] 87)).grown (grown_set4 _ w.heap.size (.int .i64 0) (.slice none 0 0) (.slice none 0 0) (.slice none 0 0)) (by have := hB.size; simp; omega) (fun g e => by have := Option.some.inj e; omega)
  refine bodyPost_ret (v := .tuple #[.agg #[.int .i64 0, .slice none 0 0, .slice none 0 0, .slice none 0 0], .bool false]) ?_ rfl ⟨rfl, hB2⟩
  simp [results, Tryz.f17, go_sem, p0, p1, p2, p3]
theorem left_nil (od : Int) (w : World) :
    Calls Tryz.prog 22 #[.pointer none, .int .i64 od] w fun e w' => (∃ v, e = .returned v ∧ w'.ownsRow w.heap.size 37 2 v 0 []) ∧ Below w.heap.size w w' := by
  have cP := Lib.hid (parcel_nil od w)
  have h0 : Fits [] := fun x hx => by cases hx
  go_enter Tryz.func22, Tryz.ntmps22
  go_wp2_with fail
  refine cP.out.mono ?_
  rintro e W ⟨rfl, hb1⟩
  dsimp only [pclV]
  have hal := (Below.refl W.heap.size W).alloc (Nat.le_refl _) (.cells #[.int .i64 0, .slice none 0 0, .slice none 0 0, .slice none 0 0] 39)
  have cR := Lib.hid (rest_calls [] [] (.slice none 0 0) (.slice none 0 0) (W.alloc (.cells #[.int .i64 0, .slice none 0 0, .slice none 0 0, .slice none 0 0] 39)) (ItemsAt.nil _ _ _) (ItemsAt.nil _ _ _) h0 h0)
  have hB := hb1.trans (hal.mono hb1.size)
  clear cP
  go_wp2_with fail
  refine cR.out.mono ?_
  rintro e W2 ⟨⟨v, rfl, hv⟩, hb2⟩
  go_wp2
  go_ret
  have e0 : both restF [] [] = [] := by decide +kernel
  rw [e0] at hv
  exact ⟨⟨_, rfl, ownsRow_wide hv hB.size⟩, hB.trans (hb2.mono hB.size)⟩

theorem all_nil (n : Nat) (hn : 1 ≤ n) (Bs : Nat) (w : World) (hbs : Ob w Bs 23 #[.pointer none]) :
    Rr.Reads Fence.wide n Tryz.prog 85 #[.pointer (some ⟨Bs, 0, none⟩)] (fun (_ : Unit) (_ : Value) (_ : World) => True) (Below w.heap.size) (fun xs => xs = []) (fun _ => False) (fun _ _ => False) w := by
  intro l J Jx W hW hJ hJx hY h0
  have hB := hbs.same hW
  have cB : W.cell? ⟨Bs, 0, none⟩ = some (.pointer none) := hB.cell (j := 0) rfl
  have cM := Lib.hid (made_nil W)
  refine callsIn_of_wp Tryz.func85 rfl trivial ?_ rfl
  simp only [Tryz.ntmps85, List.size_toArray, List.length_cons, List.length_nil, Nat.reduceAdd, Nat.reduceSub, Array.replicate_succ, Array.replicate_zero, List.push_toArray, List.append_toArray, List.nil_append, List.cons_append]
  clear hY
  gi_wp2_with (refine ⟨trivial, ?_⟩; gi_at_call 43; refine (callsIn_wide.2 cM.out).mono ?_; rintro e W' ⟨rfl, rfl⟩)
  refine bodyPost_ret (results_none rfl _ _ _) rfl ?_
  exact ⟨⟨_, rfl⟩, .inl ⟨_, rfl, h0⟩⟩

/-- a parcel, as it is asked for -/
structure Pcl where
  od : Int
  wa : List It.Item
  sh : List It.Item
  ba : List It.Item
def sameP (a b : Pcl) : Bool := decide (a.od = b.od) && decide (a.wa = b.wa) && decide (a.sh = b.sh) && decide (a.ba = b.ba)
theorem sameP_iff (a b : Pcl) : sameP a b = true ↔ a = b := by
  obtain ⟨a1, a2, a3, a4⟩ := a
  obtain ⟨b1, b2, b3, b4⟩ := b
  simp [sameP, and_assoc]

set_option maxRecDepth 100000 in
set_option maxHeartbeats 4000000 in
theorem sameP_calls (a b : Pcl) (a1 a2 a3 b1 b2 b3 : Value) (w : World) (ha1 : ItemsAt w 0 w.heap.size a1 a.wa) (ha2 : ItemsAt w 0 w.heap.size a2 a.sh) (ha3 : ItemsAt w 0 w.heap.size a3 a.ba) (hb1 : ItemsAt w 0 w.heap.size b1 b.wa) (hb2 : ItemsAt w 0 w.heap.size b2 b.sh) (hb3 : ItemsAt w 0 w.heap.size b3 b.ba) :
    Calls Tryz.prog 19 #[pclV a.od a1 a2 a3, pclV b.od b1 b2 b3] w fun e w' => e = .returned (.bool (sameP a b)) ∧ Below w.heap.size w w' := by
  have cS1 := Lib.hid (fun W (h : Below w.heap.size w W) => refsame_calls a.wa b.wa _ _ W (ha1.mono h h.size) (hb1.mono h h.size))
  have cS2 := Lib.hid (fun W (h : Below w.heap.size w W) => refsame_calls a.sh b.sh _ _ W (ha2.mono h h.size) (hb2.mono h h.size))
  have cS3 := Lib.hid (fun W (h : Below w.heap.size w W) => refsame_calls a.ba b.ba _ _ W (ha3.mono h h.size) (hb3.mono h h.size))
  obtain ⟨A1, c1, rfl, -⟩ := ha1.form
  obtain ⟨A2, c2, rfl, -⟩ := ha2.form
  obtain ⟨A3, c3, rfl, -⟩ := ha3.form
  obtain ⟨B1, d1, rfl, -⟩ := hb1.form
  obtain ⟨B2, d2, rfl, -⟩ := hb2.form
  obtain ⟨B3, d3, rfl, -⟩ := hb3.form
  have HSm := Lib.hid (show sameP a b = (decide (a.od = b.od) && decide (a.wa = b.wa) && decide (a.sh = b.sh) && decide (a.ba = b.ba)) from rfl)
  generalize sameP a b = S at *
  generalize decide (a.wa = b.wa) = s1 at *
  generalize decide (a.sh = b.sh) = s2 at *
  generalize decide (a.ba = b.ba) = s3 at *
  generalize a.wa.length = n1 at *
  generalize b.wa.length = m1 at *
  generalize a.sh.length = n2 at *
  generalize b.sh.length = m2 at *
  generalize a.ba.length = n3 at *
  generalize b.ba.length = m3 at *
  generalize a.od = ao at *
  generalize b.od = bo at *
  dsimp only [pclV]
  clear ha1 ha2 ha3 hb1 hb2 hb3
  have hb0 := (Below.refl w.heap.size w).alloc (Nat.le_refl _) (.cells #[.int .i64 ao, .slice A1 n1 c1, .slice A2 n2 c2, .slice A3 n3 c3] 39)
  have hB0 := hb0.alloc hb0.size (.cells #[.int .i64 bo, .slice B1 m1 d1, .slice B2 m2 d2, .slice B3 m3 d3] 39)
  have hO1 := (Ob.new w 39 #[.int .i64 ao, .slice A1 n1 c1, .slice A2 n2 c2, .slice A3 n3 c3]).alloc (.cells #[.int .i64 bo, .slice B1 m1 d1, .slice B2 m2 d2, .slice B3 m3 d3] 39)
  have hO2 := Ob.new (w.alloc (.cells #[.int .i64 ao, .slice A1 n1 c1, .slice A2 n2 c2, .slice A3 n3 c3] 39)) 39 #[.int .i64 bo, .slice B1 m1 d1, .slice B2 m2 d2, .slice B3 m3 d3]
  simp only [World.size_alloc] at hO2
  have CS1 := Lib.hid (cS1.out _ hB0)
  clear hb0
  by_cases e1 : ao = bo
  case neg =>
    have q1 : (ao == bo) = false := by simpa using e1
    obtain rfl : S = false := by rw [HSm.out]; simp [e1]
    clear hO1 hO2
    go_enter Tryz.func19, Tryz.ntmps19
    go_wp2
    go_ret
    exact ⟨rfl, hB0⟩
  case pos =>
  subst e1
  have HS2 := Lib.hid (show S = (s1 && s2 && s3) by rw [HSm.out]; simp)
  clear HSm
  cases s1 with
  | false =>
    obtain rfl : S = false := by rw [HS2.out]; simp
    clear hO1 hO2
    go_enter Tryz.func19, Tryz.ntmps19
    go_wp2_with (go_at_call 21; refine CS1.out.mono ?_; rintro e W ⟨rfl, hb1⟩)
    go_ret
    exact ⟨rfl, hB0.trans (hb1.mono hB0.size)⟩
  | true =>
    go_enter Tryz.func19, Tryz.ntmps19
    go_wp2_with fail
    refine CS1.out.mono ?_
    rintro e W ⟨rfl, hb1⟩
    have hB1 := hB0.trans (hb1.mono hB0.size)
    replace hO1 := hO1.same hb1
    replace hO2 := hO2.same hb1
    have CS2 := Lib.hid (cS2.out _ hB1)
    clear CS1 hb1
    obtain ⟨q0, q1, q2, q3⟩ := hO1.four
    obtain ⟨p0, p1, p2, p3⟩ := hO2.four
    cases s2 with
    | false =>
      obtain rfl : S = false := by rw [HS2.out]; simp
      go_wp2_with (go_at_call 21; refine CS2.out.mono ?_; rintro e W2 ⟨rfl, hb1⟩)
      go_ret
      exact ⟨rfl, hB1.trans (hb1.mono hB1.size)⟩
    | true =>
      go_wp2_with fail
      refine CS2.out.mono ?_
      rintro e W2 ⟨rfl, hb1⟩
      have hB2 := hB1.trans (hb1.mono hB1.size)
      replace hO1 := hO1.same hb1
      replace hO2 := hO2.same hb1
      have CS3 := Lib.hid (cS3.out _ hB2)
      clear CS2 hb1 q0 q1 q2 q3 p0 p1 p2 p3
      obtain ⟨q0, q1, q2, q3⟩ := hO1.four
      obtain ⟨p0, p1, p2, p3⟩ := hO2.four
      obtain rfl : S = s3 := by rw [HS2.out]; simp
      go_wp2_with fail
      refine CS3.out.mono ?_
      rintro e W3 ⟨rfl, hb1⟩
      go_wp2
      go_ret
      exact ⟨rfl, hB2.trans (hb1.mono hB2.size)⟩
end Pc
end Go.Proofs.YtdbkkldgobkjcaaGreat

namespace Go.Proofs.YtdbkkldgobkjcaaGreat
open Go.RowKit
namespace Pi
open Pu
section
variable {P : Program} {ops : Array Oper} {Q : Exit → Act → World → Prop} {md : Region.Mode} {l n : Nat}
/-- ends normally, and so -/
structure OnlyN (Q : Exit → Act → World → Prop) (e : Exit) (a : Act) (w : World) : Prop where
  e : e = .normal
  q : Q .normal a w
theorem OnlyN.out {a : Act} {w : World} (h : Q .normal a w) : OnlyN Q .normal a w := ⟨rfl, h⟩
theorem no_out : ¬ LetsOut (OnlyN Q) := fun ⟨_, _, h⟩ => by cases h.e
theorem op_in {o : Oper} {a : Act} {w : World} {K : Act → World → Prop} (hnd : ∀ c, o.op ≠ .defer c) (h : o.wp P a w K (OnlyN Q) ∨ (o.asks P a w ∧ LetsOut (OnlyN Q))) : o.wpIn (Fence.wide.inRound l) n P a w K (OnlyN Q) := by
  rcases h with h | ⟨_, h⟩
  case inr => exact (no_out h).elim
  refine ⟨fun _ _ => trivial, ?_⟩
  rw [Oper.semAt_eq _ _ _ hnd]
  unfold Oper.wp at h
  generalize (execOp a.eval o).run P w = r at *
  cases r with
  | ok x w' =>
    cases x <;> simp only [Oper.upon] at h <;> simp only [Oper.uponIn]
    case value v => exact h
    case skip => exact h
    case defer d => exact h
    case enter f args => exact ⟨(fun hh => by cases hh), (callsIn_wide (n := n - 1)).2 h⟩
    case row row args =>
      refine ⟨(fun hh => by cases hh), fun c cs _ => ?_⟩
      obtain ⟨v, w', r, s⟩ := h c cs
      exact ⟨v, w', r, stepsIn_wide.2 s⟩
  | halt x w' =>
    cases x <;> simp only [Oper.upon] at h
    case panic u => cases h.e
theorem any_in (hnd : ∀ (i : Nat) (o : Oper), ops[i]? = some o → ∀ c, o.op ≠ .defer c) : ∀ (m : Nat) (listed : Array Bool) (a : Act) (w : World), wpAny P md ops (OnlyN Q) m listed a w → wpAnyIn (Fence.wide.inRound l) n P md ops (OnlyN Q) m listed a w := by
  intro m
  induction m with
  | zero => exact fun _ _ _ h => h
  | succ m ih =>
    intro listed a w h
    refine ⟨h.1, fun i hi => ?_⟩
    have h1 := h.2 i hi
    unfold wpOp at h1
    unfold wpOpIn
    cases ho : ops[i]? with
    | none =>
      rw [ho] at h1
      exact ih _ _ _ h1
    | some o =>
      rw [ho] at h1
      dsimp only at h1 ⊢
      split
      · rename_i hw
        rw [if_pos hw] at h1
        refine op_in (hnd i o ho) ?_
        rcases h1 with h1 | h1
        · exact .inl (Oper.wp_mono (fun a w h => ih _ _ _ h) h1)
        · exact .inr h1
      · rename_i hw
        rw [if_neg hw] at h1
        exact ⟨fun _ _ => trivial, ih _ _ _ h1⟩
def noDefer (ops : Array Oper) : Bool := ops.toList.all fun o => match o.op with | .defer _ => false | _ => true
theorem noDefer_at (h : noDefer ops = true) (i : Nat) (o : Oper) (ho : ops[i]? = some o) (c : Call) : o.op ≠ .defer c := by
  intro e
  have := List.all_eq_true.1 h o (by rw [Array.getElem?_eq_some_iff] at ho; obtain ⟨hi, rfl⟩ := ho; simp)
  rw [e] at this
  cases this
theorem regionIn {id : Nat} {a : Act} {w : World} (ord : List (Nat × Bool)) (B : World → Prop) (hm : P.follows .mixedOrders = true) (hf : fine .any ops = true) (hok : okM .any ops ord = true) (hwh : whole ops ord = true) (hd : noDefer ops = true) (hB : B w.drew)
    {l' : List (Oper × Bool)} (hl : named ops ord = l') (hs : WalkM P ops (OnlyN Q) l' a B (fun W => W = w.drew)) : (Code.region id ops true).wpIn (Fence.wide.inRound l) n P Q a w := by
  subst hl
  refine Go.wpIn_mono (Q := OnlyN Q) ?_ fun e a w h => by rw [h.e]; exact h.q
  refine wpIn_region_any hm (any_in (noDefer_at hd) _ _ _ _ ?_)
  have h := run_made (md := .any) (P := P) (Q := OnlyN Q) rfl hf ops.size (List.range ops.size) (Array.replicate ops.size false) a a w.drew B (fun W => W = w.drew) ord [] (by simp) (by simp) List.nodup_range (fun j => ?_) (fun j hj => ?_) (fun p hp => ?_) ⟨rfl, rfl, fun _ _ => rfl⟩ rfl
    ⟨fun W h => h ▸ hB, (fun i hi => nomatch hi), (fun i hi => nomatch hi), (fun i hi => nomatch hi), (fun i hi => nomatch hi), hok, hs.go⟩
  · exact h
  · rw [List.mem_range]
    by_cases h : j < ops.size
    · simp [h]
    · simp [h]
  · right
    have hjs : j < ops.size := by
      rcases Nat.lt_or_ge j ops.size with h | h
      · exact h
      · simp [h] at hj
    have := List.all_eq_true.1 hwh j (List.mem_range.2 hjs)
    obtain ⟨p, hp, hpj⟩ := List.any_eq_true.1 this
    exact ⟨p, hp, by simpa using hpj⟩
  · have hlt : p.1 < ops.size := by
      clear hs hwh
      induction ord with
      | nil => cases hp
      | cons q r ih =>
        obtain ⟨o, ho, _, _, _, _, _, g6⟩ := okM_cons (i := q.1) (b := q.2) hok
        rcases List.mem_cons.1 hp with rfl | hp
        · exact (Array.getElem?_eq_some_iff.1 ho).1
        · exact ih g6 hp
    simp [hlt]
end
end Pi
end Go.Proofs.YtdbkkldgobkjcaaGreat

namespace Go.Proofs.YtdbkkldgobkjcaaGreat
open Go.RowKit Go.Maps
namespace Pc
open It Mv
attribute [local go_sem] Oper.semAt_some

set_option maxRecDepth 100000 in
set_option maxHeartbeats 8000000 in
theorem walksP_calls (pb b mb xb base : Nat) (X Y : Nat → Prop) (ds : List Row) (es : List DR) (w : World) (h : PcAt w pb b mb X ds) (hdoc : DocP w xb base Y es) (he : es.map (·.d) = ds) :
    Calls Tryz.prog 20 #[.pointer (some ⟨b, 0, none⟩), .pointer (some ⟨xb, 0, none⟩)] w fun e w' => e = .returned (.bool true) ∧ Below w.heap.size w w' := by
  have hen := eql_nilP
  have hlen : es.length = ds.length := by rw [← he]; simp
  have hds40 := h.len
  obtain ⟨v, hx, hv, -⟩ := hdoc.ob
  have HNEST := Lib.hid hdoc.nest
  obtain ⟨A, c, rfl, hc1, hc2, -⟩ := (Sl.of_own hv).at_
  unfold maxLen at hc2
  refine (callsIn_wide (n := 6)).1 ?_
  refine callsIn_of_wp_marks Tryz.func20 rfl trivial ?_ rfl
  simp only [Tryz.ntmps20, List.size_toArray, List.length_cons, List.length_nil, Nat.reduceAdd, Nat.reduceSub, Array.replicate_succ, Array.replicate_zero, List.push_toArray, List.append_toArray, List.nil_append, List.cons_append]
  gi_wp2_with (refine ⟨trivial, ?_⟩; gi_at_call 41; refine (callsIn_wide.2 (all_calls _ _)).mono ?_; rintro e w' ⟨rfl, rfl⟩)
  have a1 := Below.refl w.heap.size w
  have b0 := Ob.new w 25 #[.pointer (some ⟨xb, 0, none⟩)]
  have a2 := a1.alloc (Nat.le_refl _) (.cells #[.pointer (some ⟨xb, 0, none⟩)] 25)
  have b1 := Ob.new (w.alloc (.cells #[.pointer (some ⟨xb, 0, none⟩)] 25)) 4 #[.bool false]
  have a3 := a2.alloc (by simp) (.cells #[.bool false] 4)
  have b2 := Ob.new ((w.alloc (.cells #[.pointer (some ⟨xb, 0, none⟩)] 25)).alloc (.cells #[.bool false] 4)) 23 #[.pointer (some ⟨b, 0, none⟩)]
  have hB3 := a3.alloc (by simp; omega) (.cells #[.pointer (some ⟨b, 0, none⟩)] 23)
  replace b0 := (b0.alloc (.cells #[.bool false] 4)).alloc (.cells #[.pointer (some ⟨b, 0, none⟩)] 23)
  replace b1 := b1.alloc (.cells #[.pointer (some ⟨b, 0, none⟩)] 23)
  simp only [World.size_alloc] at b1 b2
  have hsz3 : (((w.alloc (.cells #[.pointer (some ⟨xb, 0, none⟩)] 25)).alloc (.cells #[.bool false] 4)).alloc (.cells #[.pointer (some ⟨b, 0, none⟩)] 23)).heap.size = w.heap.size + 3 := by simp
  generalize (((w.alloc (.cells #[.pointer (some ⟨xb, 0, none⟩)] 25)).alloc (.cells #[.bool false] 4)).alloc (.cells #[.pointer (some ⟨b, 0, none⟩)] 23)) = w3 at *
  have HSZ3 := Lib.hid hsz3
  have hdr := hB3.drew
  have hM4 := h.same hdr
  have d0 : w3.drew.cell? ⟨w.heap.size, 0, none⟩ = some (.pointer (some ⟨xb, 0, none⟩)) := b0.cell (j := 0) rfl
  have x0 : w3.drew.cell? ⟨xb, 0, none⟩ = some (.slice A es.length c) := (hx.same hdr).cell (j := 0) rfl
  have cL := Lib.hid (len_calls pb b mb X ds w3.drew hM4)
  have hneq : ((ds.length : Int) != (es.length : Int)) = false := by rw [hlen]; simp
  have HLEN := Lib.hid hlen
  have HM4 := Lib.hid hM4
  have HX := Lib.hid hx
  have HV := Lib.hid hv
  have HDOC := Lib.hid hdoc
  have HB3 := Lib.hid hB3
  have H := Lib.hid h
  have HE := Lib.hid he
  clear a1 a2 a3 hsz3 hM4 hB3 hv hx hdoc hdr h he hlen
  refine wpIn_wide.2 ?_
  refine Pu.regionW (fun V => V = w3.drew) hmx (by kernel_rfl) (by kernel_rfl) rfl rfl ?_
  iterate 12 (first
    | (refine Pu.Walk.off (by rfl) ?_; simp only [Act.put, List.setIfInBounds_toArray, List.set_cons_succ, List.set_cons_zero])
    | (apply Pu.Walk.on (by rfl)
       · rintro V rfl
         go_wp2_with (go_at_call 42; refine cL.out.mono ?_; rintro e W' ⟨rfl, rfl⟩)
         refine ⟨rfl, ?_, rfl⟩
         try simp only [Act.put, List.setIfInBounds_toArray, List.set_cons_succ, List.set_cons_zero]
         rfl
       simp only [Act.put, List.setIfInBounds_toArray, List.set_cons_succ, List.set_cons_zero]))
  refine Pu.Walk.nil (fun V hV => ?_)
  rw [hV]
  clear hV V d0 x0 cL hneq hen
  gi_wp2
  have b4 : Ob (w3.alloc (.cells #[.int .i64 0] 3)).drew w3.heap.size 3 #[.int .i64 0] := Ob.new w3 3 #[.int .i64 0]
  have e0 : Ob ((w3.alloc (.cells #[.int .i64 0] 3)).drew) w.heap.size 25 #[.pointer (some ⟨xb, 0, none⟩)] := b0.alloc (.cells #[.int .i64 0] 3)
  have e1 : Ob ((w3.alloc (.cells #[.int .i64 0] 3)).drew) (w.heap.size + 1) 4 #[.bool false] := b1.alloc (.cells #[.int .i64 0] 3)
  have e2 : Ob ((w3.alloc (.cells #[.int .i64 0] 3)).drew) (w.heap.size + 1 + 1) 23 #[.pointer (some ⟨b, 0, none⟩)] := b2.alloc (.cells #[.int .i64 0] 3)
  have hB5 : Below w.heap.size w (w3.alloc (.cells #[.int .i64 0] 3)).drew := (HB3.out.alloc HB3.out.size (.cells #[.int .i64 0] 3)).drew
  rw [HSZ3.out] at b4
  have hM5 : PcAt ((w3.alloc (.cells #[.int .i64 0] 3)).drew) pb b mb (fun i => X i ∨ i = w.heap.size + 3) ds := H.out.more hB5 fun i hi => by
    have hs5 : ((w3.alloc (.cells #[.int .i64 0] 3)).drew).heap.size = w.heap.size + 4 := by show (w3.alloc (.cells #[.int .i64 0] 3)).heap.size = _; rw [World.size_alloc, HSZ3.out]
    rcases hi with hi | rfl
    · exact ⟨.inl hi, by have := H.out.xl i hi; omega⟩
    · exact ⟨.inr (by omega), by omega⟩
  have hs5 : ((w3.alloc (.cells #[.int .i64 0] 3)).drew).heap.size = w.heap.size + 4 := by show (w3.alloc (.cells #[.int .i64 0] 3)).heap.size = _; rw [World.size_alloc, HSZ3.out]
  clear b0 b1 b2
  generalize (w3.alloc (.cells #[.int .i64 0] 3)).drew = w5 at *
  obtain ⟨X5, hX5⟩ : ∃ X5 : Nat → Prop, X5 = fun i => X i ∨ i = w.heap.size + 3 := ⟨_, rfl⟩
  rw [← hX5] at hM5
  have hxs5 : ¬ X5 (w.heap.size + 1 + 1) := fun hi => by
    rw [hX5] at hi
    rcases hi with hi | hi
    · have := H.out.xl _ hi; omega
    · omega
  have hx3 : X5 (w.heap.size + 3) := by rw [hX5]; exact .inr rfl
  have HB5 := Lib.hid hB5
  clear hX5 hB5
  simp only [HSZ3.out]
  refine Rr.range_reads (n := 6) rfl (by omega) (gf := 85) rfl trivial (enters_of Tryz.func85 (by kernel_rfl) rfl)
    (allP_reads 5 (by omega) pb b mb (w.heap.size + 1 + 1) X5 ds w5 hM5 e2 hxs5) (Below.refl _ _) (fun h k => h.trans k) (fun W l r r' _ h => KpX.loop h) rfl
    (fun pre W => Ob W w.heap.size 25 #[.pointer (some ⟨xb, 0, none⟩)] ∧ Ob W (w.heap.size + 1) 4 #[.bool false] ∧ Ob W (w.heap.size + 3) 3 #[.int .i64 pre.length] ∧ Below w.heap.size w5 W)
    (fun c pre W => False)
    (fun s A B row hs hg hr => ⟨ob_keep hs.1 hg (fun r e => (hr r e).2), ob_keep hs.2.1 hg (fun r e => (hr r e).2), ob_keep hs.2.2.1 hg (fun r e => (hr r e).2), ownFrom_below (B := w5.heap.size) (by omega) (by omega) s A B row hs.2.2.2 hg hr⟩)
    (fun c s A B row hs hg hr => hs.elim)
    ⟨e0, e1, b4, Below.refl _ _⟩ ?round ?done ?stop
  case stop => exact fun D c pre W _ _ h _ => h.elim
  case round =>
    rintro l pre ⟨od, wa, sh, ba, fr, fb⟩ v W hl ⟨hb0, hb1, hb2, hB⟩ hpre ⟨u1, u2, u3, rfl, s1, s2, s3⟩
    obtain ⟨A1, k1, rfl, -⟩ := s1.form
    obtain ⟨A2, k2, rfl, -⟩ := s2.form
    obtain ⟨A3, k3, rfl, -⟩ := s3.form
    dsimp only [pclV]
    have hn0 : pre.length < ds.length ∧ ds[pre.length]? = some ⟨od, wa, sh, ba, fr, fb⟩ := by
      obtain ⟨r, hr⟩ := hpre
      rw [← hr]
      simp
    have hn : pre.length < es.length := by rw [HLEN.out]; exact hn0.1
    have hdn : es[pre.length].d = ⟨od, wa, sh, ba, fr, fb⟩ := by
      have h1 := hn0.2
      rw [← HE.out, List.getElem?_map, List.getElem?_eq_getElem hn] at h1
      simpa using h1
    have HN0 := Lib.hid hn0
    clear hn0 hpre
    gi_wp2
    have g1 := World.grownBy_alloc W (.cells #[.int .i64 od, .slice A1 wa.length k1, .slice A2 sh.length k2, .slice A3 ba.length k3] 39) none
    refine ⟨keeps_below _ ((Below.refl _ W).alloc (Nat.le_refl _) _), KpX.of_grown g1 (fun g e => by cases e), fun W2 hg2 o2 ho21 ho22 => ?_⟩
    have ho2 : ∃ o : Obj, (W.alloc (.cells #[.int .i64 od, .slice A1 wa.length k1, .slice A2 sh.length k2, .slice A3 ba.length k3] 39)).heap[l]? = some o ∧ o.isCells = false := ⟨o2, ho21, ho22⟩
    have hb8 := ob_keep (Ob.new W 39 #[.int .i64 od, .slice A1 wa.length k1, .slice A2 sh.length k2, .slice A3 ba.length k3]) hg2 (fun r e => by cases e; exact ho2)
    replace hb0 := ob_keep (hb0.alloc _) hg2 (fun r e => by cases e; exact ho2)
    replace hb1 := ob_keep (hb1.alloc _) hg2 (fun r e => by cases e; exact ho2)
    replace hb2 := ob_keep (hb2.alloc _) hg2 (fun r e => by cases e; exact ho2)
    replace hB : Below w.heap.size w5 W2 := (hB.alloc (by have := hB.size; omega) (.cells #[.int .i64 od, .slice A1 wa.length k1, .slice A2 sh.length k2, .slice A3 ba.length k3] 39)).grown hg2 (by have := hB.size; simp; omega) (fun k e => by cases e; omega)
    have hsl : ∀ {A k l'}, ItemsAt W w5.heap.size W.heap.size (.slice A l'.length k) l' → ItemsAt W2 0 W2.heap.size (.slice A l'.length k) l' := fun hsv => (sl_keep (Sl.below hsv ((Below.refl _ W).alloc (Nat.le_refl _) (.cells #[.int .i64 od, .slice A1 wa.length k1, .slice A2 sh.length k2, .slice A3 ba.length k3] 39))) hg2 (fun r e => by cases e; exact ho2) (by simp)).wide (Nat.zero_le _) (by have := hg2.size; simp at this; omega)
    have hW2l : W.heap.size < W2.heap.size := by have := hg2.size; simp at this; omega
    have hbw := HB5.out.trans hB
    obtain ⟨bo, o, rfl, -, hbo, hcs⟩ := docP_cell (Sl.below (Sl.of_own HV.out) hbw) hn
    have c0 := hcs 0 _ rfl
    have c1 := hcs 1 _ rfl
    have c2 := hcs 2 _ rfl
    have c3 := hcs 3 _ rfl
    simp only [Nat.add_zero] at c0
    clear hcs
    have hbo2 : bo < W2.heap.size := by have := hbw.size; omega
    have hnest := HNEST.out es[pre.length] (List.getElem_mem hn)
    generalize es[pre.length] = pp at *
    obtain ⟨dd, v1, v2, v3⟩ := pp
    dsimp only at hdn hnest c0 c1 c2 c3
    subst hdn
    dsimp only at hnest c0 c1 c2 c3
    obtain ⟨n1, n2, n3⟩ := hnest
    have hxW := HX.out.same hbw
    have hd : decide (es.length ≤ pre.length) = false := by simp; omega
    have hdr := (Below.refl W2.heap.size W2).drew
    have cS := sameP_calls ⟨od, wa, sh, ba⟩ ⟨od, wa, sh, ba⟩ (.slice A1 wa.length k1) (.slice A2 sh.length k2) (.slice A3 ba.length k3) v1 v2 v3 W2.drew ((hsl s1).mono hdr (Nat.le_refl _)) ((hsl s2).mono hdr (Nat.le_refl _)) ((hsl s3).mono hdr (Nat.le_refl _)) ((n1.items.mono hbw hbw.size).mono hdr (Nat.le_refl _)) ((n2.items.mono hbw hbw.size).mono hdr (Nat.le_refl _)) ((n3.items.mono hbw hbw.size).mono hdr (Nat.le_refl _))
    obtain ⟨B1, d1, rfl, -⟩ := n1.items.form
    obtain ⟨B2, d2, rfl, -⟩ := n2.items.form
    obtain ⟨B3, d3, rfl, -⟩ := n3.items.form
    rw [(sameP_iff _ _).2 rfl] at cS
    dsimp only [pclV] at cS
    have CS := Lib.hid cS
    have HBW := Lib.hid hB
    have l1 : (0 : Int) ≤ (pre.length : Int) := by omega
    have l2 : (pre.length : Int) < (es.length : Int) := by omega
    clear cS ho2 ho21 ho22 hsl n1 n2 n3 s1 s2 s3 g1 hbw hg2 hB hdr
    generalize hpl : pre.length = n at *
    have HPL := Lib.hid hpl
    clear hpl
    gi_wp2
    refine Pi.regionIn [(0, false), (1, false), (2, false), (3, false), (4, false), (5, false), (6, false), (7, false), (8, false), (9, false), (10, false), (11, false), (12, false), (13, false), (14, false), (15, false), (16, false), (17, true), (18, false), (19, false)]
      (fun V => Ob V w.heap.size 25 #[.pointer (some ⟨xb, 0, none⟩)] ∧ Ob V (w.heap.size + 3) 3 #[.int .i64 n] ∧ Ob V W.heap.size 39 #[.int .i64 od, .slice A1 wa.length k1, .slice A2 sh.length k2, .slice A3 ba.length k3] ∧ Ob V xb 28 #[.slice (some ⟨bo, o, none⟩) es.length c] ∧ W2.heap.size ≤ V.heap.size ∧ Below W2.heap.size W2 V)
      hmx (by kernel_rfl) (by kernel_rfl) (by kernel_rfl) (by kernel_rfl) ⟨hb0, hb2, hb8, hxW, Nat.le_refl _, (Below.refl _ W2).drew⟩ rfl ?_
    simp only [Pu.named, List.filterMap_cons, List.filterMap_nil, List.getElem?_toArray, List.getElem?_cons_succ, List.getElem?_cons_zero, Option.map_some]
    iterate 17 (apply Pu.WalkM.on (by rfl)
                · rintro V ⟨k0, k2, k8, kx, ks, kb⟩
                  have z0 := k0.cell (j := 0) (v := .pointer (some ⟨xb, 0, none⟩)) rfl
                  have z2 := k2.cell (j := 0) (v := .int .i64 n) rfl
                  have zx := kx.cell (j := 0) (v := .slice (some ⟨bo, o, none⟩) es.length c) rfl
                  obtain ⟨y0, y1, y2, y3⟩ := k8.four
                  have r0 := (kb.cell (p := ⟨bo, o + n * 12, none⟩) hbo2).trans c0
                  have r1 := (kb.cell (p := ⟨bo, o + n * 12 + 1, none⟩) hbo2).trans c1
                  have r2 := (kb.cell (p := ⟨bo, o + n * 12 + 2, none⟩) hbo2).trans c2
                  have r3 := (kb.cell (p := ⟨bo, o + n * 12 + 3, none⟩) hbo2).trans c3
                  go_wp2_with fail
                  refine ⟨rfl, ?_, rfl⟩
                  try simp only [Act.put, List.setIfInBounds_toArray, List.set_cons_succ, List.set_cons_zero]
                  rfl
                simp only [Act.put, List.setIfInBounds_toArray, List.set_cons_succ, List.set_cons_zero])
    refine Pu.WalkM.make (by rfl) ?_
    intro V hV
    rw [hV]
    clear hV V
    go_wp2_with (go_at_call 19; refine CS.out.mono ?_; rintro e W3 ⟨rfl, hb3⟩)
    have hb3' : Below W2.heap.size W2 W3 := (Below.refl _ W2).drew.trans hb3
    refine ⟨rfl, .bool true, _, (fun V => V = W3), ?_, rfl, (fun V h => by rw [h]; exact ⟨hb0.same hb3', hb2.same hb3', hb8.same hb3', hxW.same hb3', hb3'.size, hb3'⟩), (.inr (fun _ h => h)), ?_⟩
    · simp only [Act.put, List.setIfInBounds_toArray, List.set_cons_succ, List.set_cons_zero]
    simp only [Act.put, List.setIfInBounds_toArray, List.set_cons_succ, List.set_cons_zero]
    iterate 02 (apply Pu.WalkM.on (by rfl)
                · rintro V -
                  go_wp2_with fail
                  refine ⟨rfl, ?_, rfl⟩
                  try simp only [Act.put, List.setIfInBounds_toArray, List.set_cons_succ, List.set_cons_zero]
                  rfl
                simp only [Act.put, List.setIfInBounds_toArray, List.set_cons_succ, List.set_cons_zero])
    refine Pu.WalkM.nil ?_
    intro V hV
    rw [hV]
    clear hV V
    refine Pi.OnlyN.out ?_
    have z2 := (hb2.same hb3').cell (j := 0) (v := .int .i64 n) rfl
    have f2 := (hb2.same hb3').frozen 0
    have hl256 : (n : Int) < 1099511627776 := by have := HLEN.out; omega
    clear c0 c1 c2 c3 hd l1 l2
    gi_wp2
    have g3 := only_of_below hb3' none
    refine ⟨keeps_set (keeps_below _ hb3') _ _, (KpX.of_grown g3 (fun g e => by cases e)).trans (KpX.of_grown (grownBy_set W3 _ 0 _) (fun g e => by cases e; exact hx3)), ((hb0.same hb3').other (by omega) 0 _), ((hb1.same hb3').other (by omega) 0 _), ?_, ?_⟩
    · have := (hb2.same hb3').set 0 (.int .i64 ((n : Int) + 1))
      rw [List.length_append, HPL.out]
      exact this
    · exact (HBW.out.trans (hb3'.mono (by have := HBW.out.size; omega))).grown (grownBy_set W3 _ 0 _) (by have := HBW.out.size; have := hb3'.size; omega) (fun k e => by cases e; omega)
  case done =>
    rintro D xs W hD rfl ⟨hb0, hb1, hb2, hB⟩ hK
    gi_wp2
    have hbw := HB5.out.trans hB
    have hxW : Ob W.drew xb 28 #[.slice A es.length c] := HX.out.same hbw.drew
    have k0 : Ob W.drew w.heap.size 25 #[.pointer (some ⟨xb, 0, none⟩)] := hb0
    have k1 : Ob W.drew (w.heap.size + 1) 4 #[.bool false] := hb1
    have k2 : Ob W.drew (w.heap.size + 3) 3 #[.int .i64 xs.length] := hb2
    have hq : ((xs.length : Int) == (es.length : Int)) = true := by rw [HLEN.out]; simp
    have hBs := hB.size
    clear hb0 hb1 hb2
    refine wpIn_wide.2 ?_
    refine Pu.regionM [(0, false), (1, false), (2, false), (3, false), (4, false), (5, false), (6, false), (7, true)]
      (fun V => Ob V w.heap.size 25 #[.pointer (some ⟨xb, 0, none⟩)] ∧ Ob V (w.heap.size + 3) 3 #[.int .i64 xs.length] ∧ Ob V xb 28 #[.slice A es.length c])
      hmx (by kernel_rfl) (by kernel_rfl) (by kernel_rfl) ⟨k0, k2, hxW⟩ rfl ?_
    simp only [Pu.named, List.filterMap_cons, List.filterMap_nil, List.getElem?_toArray, List.getElem?_cons_succ, List.getElem?_cons_zero, Option.map_some]
    iterate 07 (apply Pu.WalkM.on (by rfl)
                · rintro V ⟨m0, m2, mx⟩
                  have z0 := m0.cell (j := 0) (v := .pointer (some ⟨xb, 0, none⟩)) rfl
                  have z2 := m2.cell (j := 0) (v := .int .i64 xs.length) rfl
                  have zx := mx.cell (j := 0) (v := .slice A es.length c) rfl
                  go_wp2_with fail
                  refine ⟨rfl, ?_, rfl⟩
                  try simp only [Act.put, List.setIfInBounds_toArray, List.set_cons_succ, List.set_cons_zero]
                  rfl
                simp only [Act.put, List.setIfInBounds_toArray, List.set_cons_succ, List.set_cons_zero])
    refine Pu.WalkM.make (by rfl) ?_
    intro V hV
    rw [hV]
    clear hV V
    have z1 := k1.cell (j := 0) (v := .bool false) rfl
    have f1 := k1.frozen 0
    go_wp2_with fail
    refine ⟨rfl, undef, (fun _ => True), (fun V => V = W.drew.setCell ⟨w.heap.size + 1, 0, none⟩ (.bool true)), rfl, rfl, (fun _ _ => trivial), (.inl (by kernel_rfl)), Pu.WalkM.nil ?_⟩
    intro V hV
    rw [hV]
    clear hV V
    simp only [Act.put]
    have hb22 := k1.set 0 (.bool true)
    have hBB := hB.drew.grown (grownBy_set W.drew (w.heap.size + 1) 0 (.bool true)) (by show w.heap.size ≤ W.heap.size; omega) (fun k e => by cases e; omega)
    have hK2 : (W.drew.setCell ⟨w.heap.size + 1, 0, none⟩ (.bool true)).heap[D]? = some (.deferred (some [])) := ((grownBy_set W.drew (w.heap.size + 1) 0 (.bool true)).block D (Array.getElem?_eq_some_iff.1 hK).1 (fun e => by cases e; omega)).trans hK
    clear z1 f1
    gi_wp2
    refine ⟨by simp, .inl ⟨_, _, rfl, run_takeDeferred hK2, ?_⟩⟩
    have c4 : ((W.setCell ⟨w.heap.size + 1, 0, none⟩ (.bool true)).drew.putObj D (.deferred none)).cell? ⟨w.heap.size + 1, 0, none⟩ = some (.bool true) := (boxed_end hb22 hK2).cell
    refine ⟨.bool true, ?_, rfl, below_end (HB5.out.trans hBB) (by omega) hK2⟩
    simp [results, Tryz.f20, go_sem, c4]
end Pc
end Go.Proofs.YtdbkkldgobkjcaaGreat

namespace Go.Proofs.YtdbkkldgobkjcaaGreat
open Go.RowKit Go.Maps
namespace Pc
open It Mv

theorem PcAt.less {w : World} {base b mb : Nat} {X X' : Nat → Prop} {ds : List Row} (h : PcAt w base b mb X' ds) (hX : ∀ i, X i → X' i) : PcAt w base b mb X ds := by
  obtain ⟨m, hm, hR⟩ := h.map
  exact ⟨h.ob, ⟨m, hm, hR.keep (Kept.refl (fun _ => True) w) (fun i _ hi => ⟨trivial, hi.1, hi.2.1, fun hx => hi.2.2.1 (hX i hx), hi.2.2.2⟩)⟩, h.frm, h.apart, fun d hd => ⟨(h.sep d hd).1, (h.sep d hd).2.1, fun hx => (h.sep d hd).2.2.1 (hX _ hx), (h.sep d hd).2.2.2⟩, h.ne, h.lo, ⟨fun hx => h.nx.1 (hX _ hx), fun hx => h.nx.2 (hX _ hx)⟩, fun i hi => h.xl i (hX i hi), h.ok⟩
/-- the blocks that a call on the parcels may write -/
def Yof (mb : Nat) (ds : List Row) (i : Nat) : Prop := i = mb ∨ ∃ d ∈ ds, i = d.fb
theorem PcAt.y {w : World} {base b mb : Nat} {X : Nat → Prop} {ds : List Row} (h : PcAt w base b mb X ds) {i : Nat} (hi : Yof mb ds i) : i < w.heap.size ∧ base ≤ i ∧ ¬ X i := by
  rcases hi with rfl | ⟨d, hd, rfl⟩
  · obtain ⟨m, hm, -⟩ := h.map
    exact ⟨hm.lt, h.lo.2, h.nx.2⟩
  · exact ⟨GMap.lt (h.frm d hd), (h.sep d hd).2.2.2, (h.sep d hd).2.2.1⟩
theorem Other.kept {mb : Nat} {ds : List Row} {w w' : World} (h : Other mb ds w w') {Fr : Nat → Prop} (hF : ∀ i, Fr i → i < w.heap.size ∧ ¬ Yof mb ds i) : Kept Fr w w' :=
  Kept.mono h fun i hi => ⟨(hF i hi).1, fun e => (hF i hi).2 (.inl e), fun d hd e => (hF i hi).2 (.inr ⟨d, hd, e⟩)⟩
theorem DocP.call {w w' : World} {xb base : Nat} {Y Y' : Nat → Prop} {es : List DR} (h : DocP w xb base Y es) (hk : Kept (fun i => i < w.heap.size ∧ ¬ Y i) w w') (hY : ∀ i, Y' i → (Y i ∨ w.heap.size ≤ i) ∧ i < w'.heap.size) : DocP w' xb base Y' es := by
  obtain ⟨v, h1, h2, h3⟩ := h.ob
  have hn : ∀ i, i < w.heap.size → ¬ Y i → ¬ Y' i := fun i hi hx hx' => by
    rcases (hY i hx').1 with h | h
    · exact hx h
    · omega
  refine ⟨⟨v, hk.ob h1 ⟨h1.lt, h.nx⟩, ?_, fun g hg => hn g (h2.lt g hg).2 (h3 g hg)⟩, fun p hp => ?_, hn xb h1.lt h.nx, fun i hi => (hY i hi).2⟩
  · refine ⟨h2.1, ?_⟩
    rcases h2.2 with h4 | ⟨g, cap, cur, e, hb, hg, hr⟩
    · exact .inl h4
    · refine .inr ⟨g, cap, cur, e, hb, (hk.block g ⟨(Array.getElem?_eq_some_iff.1 hg).1, h3 g (by rw [e]; rfl)⟩).trans hg, hr⟩
  · obtain ⟨n1, n2, n3⟩ := h.nest p hp
    have hF : ∀ i, i < w.heap.size → (i ≠ xb ∧ ¬ Y i) → (i < w.heap.size ∧ ¬ Y i) ∧ (i ≠ xb ∧ ¬ Y' i) := fun i hi hh => ⟨⟨hi, hh.2⟩, hh.1, hn i hi hh.2⟩
    exact ⟨n1.keep hk hF, n2.keep hk hF, n3.keep hk hF⟩
theorem Kept.own {w w' : World} {Fr : Nat → Prop} {lo size n : Nat} {e : TypeId} {v : Value} {xs : List Value} (hk : Kept Fr w w') (h : w.ownsRow lo e size v n xs) (hF : ∀ g, v.ownBlock = some g → g < w.heap.size → Fr g) : w'.ownsRow lo e size v n xs := by
  refine ⟨h.1, ?_⟩
  rcases h.2 with h4 | ⟨g, cap, cur, rfl, hb, hg, hr⟩
  · exact .inl h4
  · exact .inr ⟨g, cap, cur, rfl, hb, (hk.block g (hF g rfl (Array.getElem?_eq_some_iff.1 hg).1)).trans hg, hr⟩

theorem open_fb {ds : List Row} {od : Int} {l : List It.Item} {fb n : Nat} (hn : n ≤ fb) : ∀ x ∈ (openOf ds od l fb).1, (∃ d ∈ ds, x.fb = d.fb) ∨ n ≤ x.fb := by
  intro x hx
  unfold openOf at hx
  split at hx
  · exact .inl ⟨x, hx, rfl⟩
  · split at hx
    · exact .inl ⟨x, hx, rfl⟩
    · split at hx
      · exact .inl ⟨x, hx, rfl⟩
      · rcases putR_mem hx with rfl | ⟨h, -⟩
        · exact .inr hn
        · exact .inl ⟨x, h, rfl⟩
theorem put_fb {ds : List Row} {c d : Row} {n : Nat} (hc : c ∈ ds) (e : d.fb = c.fb) : ∀ x ∈ putR ds d, (∃ d ∈ ds, x.fb = d.fb) ∨ n ≤ x.fb := by
  intro x hx
  rcases putR_mem hx with rfl | ⟨h, -⟩
  · exact .inl ⟨c, hc, e⟩
  · exact .inl ⟨x, h, rfl⟩
theorem ship_fb {ds : List Row} {od r : Int} {l : List It.Item} {n : Nat} : ∀ x ∈ (shipOf ds od r l).1, (∃ d ∈ ds, x.fb = d.fb) ∨ n ≤ x.fb := by
  intro x hx
  unfold shipOf at hx
  split at hx
  · exact .inl ⟨x, hx, rfl⟩
  · cases hf : findR ds od with
    | none => rw [hf] at hx; exact .inl ⟨x, hx, rfl⟩
    | some d =>
      rw [hf] at hx
      dsimp only at hx
      split at hx
      · exact .inl ⟨x, hx, rfl⟩
      · split at hx
        · exact .inl ⟨x, hx, rfl⟩
        · split at hx
          · dsimp only at hx
            exact put_fb (d := { d with sh := (withinOf d.wa d.sh l).1, fr := mPut intK d.fr r (.bool true) }) (findR_mem hf).1 rfl x hx
          · exact .inl ⟨x, hx, rfl⟩
theorem back_fb {ds : List Row} {od : Int} {l : List It.Item} {n : Nat} : ∀ x ∈ (backOf ds od l).1, (∃ d ∈ ds, x.fb = d.fb) ∨ n ≤ x.fb := by
  intro x hx
  unfold backOf at hx
  cases hf : findR ds od with
  | none => rw [hf] at hx; exact .inl ⟨x, hx, rfl⟩
  | some d =>
    rw [hf] at hx
    dsimp only at hx
    split at hx
    · exact .inl ⟨x, hx, rfl⟩
    · split at hx
      · exact put_fb (d := { d with ba := (withinOf d.sh d.ba l).1 }) (findR_mem hf).1 rfl x hx
      · exact .inl ⟨x, hx, rfl⟩
theorem undo_fb {ds : List Row} {od : Int} {l : List It.Item} {n : Nat} : ∀ x ∈ (undoOf ds od l).1, (∃ d ∈ ds, x.fb = d.fb) ∨ n ≤ x.fb := by
  intro x hx
  unfold undoOf at hx
  cases hf : findR ds od with
  | none => rw [hf] at hx; exact .inl ⟨x, hx, rfl⟩
  | some d =>
    rw [hf] at hx
    dsimp only at hx
    split at hx
    · exact .inl ⟨x, hx, rfl⟩
    · split at hx
      · exact put_fb (d := { d with ba := (minusOf d.ba l).1 }) (findR_mem hf).1 rfl x hx
      · exact .inl ⟨x, hx, rfl⟩

/-- the state between two calls: both hold the same rows; Z: blocks of the law's own -/
structure St (w : World) (b mb xb : Nat) (Z : Nat → Prop) (W : World) (ds : List Row) (es : List DR) : Prop where
  below : Below w.heap.size w W
  pc : PcAt W w.heap.size b mb (fun i => i = xb ∨ Z i) ds
  doc : DocP W xb w.heap.size (fun i => Yof mb ds i ∨ Z i) es
  map : es.map (·.d) = ds
  xlo : w.heap.size ≤ xb
theorem St.same {w : World} {b mb xb : Nat} {Z : Nat → Prop} {W W' : World} {ds : List Row} {es : List DR} (h : St w b mb xb Z W ds es) (hb : Below W.heap.size W W') : St w b mb xb Z W' ds es :=
  ⟨h.below.trans (hb.mono h.below.size), h.pc.same hb, h.doc.same hb, h.map, h.xlo⟩
theorem St.more {w : World} {b mb xb : Nat} {Z Z' : Nat → Prop} {W W' : World} {ds : List Row} {es : List DR} (h : St w b mb xb Z W ds es) (hb : Below W.heap.size W W') (hZ : ∀ i, Z' i → (Z i ∨ W.heap.size ≤ i) ∧ i < W'.heap.size) : St w b mb xb Z' W' ds es := by
  have hs := hb.size
  refine ⟨h.below.trans (hb.mono h.below.size), h.pc.more hb (fun i hi => ?_), h.doc.more hb (fun i hi => ?_), h.map, h.xlo⟩
  · rcases hi with rfl | hi
    · exact ⟨.inl (.inl rfl), Nat.lt_of_lt_of_le (h.pc.xl _ (.inl rfl)) hs⟩
    · obtain ⟨h1, h2⟩ := hZ i hi
      exact ⟨h1.elim (fun h => .inl (.inr h)) .inr, h2⟩
  · rcases hi with hi | hi
    · exact ⟨.inl (.inl hi), Nat.lt_of_lt_of_le (h.doc.yl i (.inl hi)) hs⟩
    · obtain ⟨h1, h2⟩ := hZ i hi
      exact ⟨h1.elim (fun h => .inl (.inr h)) .inr, h2⟩
theorem St.less {w : World} {b mb xb : Nat} {Z Z' : Nat → Prop} {W : World} {ds : List Row} {es : List DR} (h : St w b mb xb Z W ds es) (hZ : ∀ i, Z' i → Z i) : St w b mb xb Z' W ds es :=
  ⟨h.below, h.pc.less (fun i hi => hi.imp_right (hZ i)), h.doc.less (fun i hi => hi.imp_right (hZ i)), h.map, h.xlo⟩
/-- a write to a block of the law's own -/
theorem St.wrote {w : World} {b mb xb g : Nat} {Z : Nat → Prop} {W W' : World} {ds : List Row} {es : List DR} (h : St w b mb xb Z W ds es) (hg : W.grownBy W' (some g)) (hz : Z g) (hl : w.heap.size ≤ g) : St w b mb xb Z W' ds es :=
  ⟨h.below.grown hg h.below.size (fun k e => by cases e; exact hl), h.pc.keep (Kept.of_grown hg fun i hi => ⟨hi.1, fun e => hi.2 (.inr (by rw [Option.some.inj e]; exact hz))⟩), h.doc.keep (Kept.of_grown hg fun i hi => ⟨hi.1, fun e => hi.2 (.inr (by rw [Option.some.inj e]; exact hz))⟩), h.map, h.xlo⟩
/-- behind the program's call, ahead of the document's -/
theorem St.call {w : World} {b mb xb : Nat} {Z : Nat → Prop} {W W2 : World} {ds ds2 : List Row} {es : List DR} (h : St w b mb xb Z W ds es) (ho : Other mb ds W W2) (hP : PcAt W2 w.heap.size b mb (fun i => i = xb ∨ Z i) ds2) (hfb : ∀ x ∈ ds2, (∃ d ∈ ds, x.fb = d.fb) ∨ W.heap.size ≤ x.fb) (hz : ∀ i, Z i → w.heap.size ≤ i) :
    Below w.heap.size w W2 ∧ DocP W2 xb w.heap.size (fun i => Yof mb ds2 i ∨ Z i) es ∧ ∀ lv l, ItemsAt W2 0 w.heap.size lv l → LiAt W2 (fun i => i ≠ xb ∧ ¬ (Yof mb ds2 i ∨ Z i)) lv l := by
  have hB := ho.below h.pc (Nat.le_refl _) h.below (Nat.le_refl _)
  refine ⟨hB, h.doc.call (ho.kept fun i hi => ⟨hi.1, fun hy => hi.2 (.inl hy)⟩) (fun i hi => ?_), fun lv l hI => ?_⟩
  · rcases hi with hi | hi
    · refine ⟨?_, (hP.y hi).1⟩
      rcases hi with rfl | ⟨d, hd, rfl⟩
      · exact .inl (.inl (.inl rfl))
      · rcases hfb d hd with ⟨c, hc, e⟩ | h
        · exact .inl (.inl (.inr ⟨c, hc, e⟩))
        · exact .inr h
    · exact ⟨.inl (.inr hi), hP.xl i (.inr hi)⟩
  · refine ⟨0, w.heap.size, hI, hB.size, fun i _ hi => ⟨by have := h.xlo; omega, ?_⟩⟩
    rintro (hy | hy)
    · have := (hP.y hy).2.1; omega
    · have := hz i hy; omega
/-- behind the document's call -/
theorem St.fin {w : World} {b mb xb : Nat} {Z : Nat → Prop} {W2 W3 : World} {ds2 : List Row} {es2 : List DR} (hxb : w.heap.size ≤ xb) (hB : Below w.heap.size w W2) (hP : PcAt W2 w.heap.size b mb (fun i => i = xb ∨ Z i) ds2) (hD : DocP W3 xb w.heap.size (fun i => Yof mb ds2 i ∨ Z i) es2) (hg : W2.grownBy W3 (some xb)) (he : es2.map (·.d) = ds2) : St w b mb xb Z W3 ds2 es2 :=
  ⟨hB.grown hg hB.size (fun k e => by cases e; exact hxb), hP.keep (Kept.of_grown hg fun i hi => ⟨hi.1, fun e => hi.2 (.inl (Option.some.inj e))⟩), hD, he, hxb⟩
end Pc
end Go.Proofs.YtdbkkldgobkjcaaGreat

namespace Go.Proofs.YtdbkkldgobkjcaaGreat
open Go.ChangeShapes Go.WideShapes Go.ChangeAt Go.RowKit

theorem own : ownKnob Tryz.prog.godebug = none := by kernel_rfl
theorem laidOut : laidOutB Tryz.prog = true := by kernel_rfl

section
variable {H : Type} {enc : TypeId × Value → H} {P : Program}
/-- all arguments read as they did -/
theorem trodAll_stays (hl : laidOutB P = true) {W W' : World} (hb : Below W.heap.size W W') {sp : Nat → Bool} :
    ∀ {ts : List TypeId} {vs : List Value} {ds : List (DataW H)} {ps : List MemPlace}, ts.all (fun t => P.readableRec t && decide (t < P.types.size)) = true →
      DataW.TrodAll enc P W 0 (fun _ => true) true ts vs ds ps → (∀ p ∈ ps, p.block < W.heap.size) → (∀ p ∈ ps, sp p.block = true) → DataW.TrodAll enc P W' 0 sp true ts vs ds ps
  | [], vs, ds, ps, _, h, _, _ => by
    obtain ⟨rfl, rfl, rfl⟩ := trodAll_nil h
    exact trodAll_mk0
  | t :: ts, vs, ds, ps, hr, h, hlt, hs => by
    obtain ⟨v, vs', d, ds', p, q, rfl, rfl, rfl, h1, h2⟩ := trodAll_cons h
    simp only [List.all_cons, Bool.and_eq_true, decide_eq_true_eq] at hr
    exact trodAll_cons_mk (WideElems.Trod_stays hl hr.1.1 hr.1.2 h1 (fun x hx => hb.same (hlt x (List.mem_append_left _ hx))) (fun x hx => hs x (List.mem_append_left _ hx)))
      (trodAll_stays hl hb (by simpa using hr.2) h2 (fun x hx => hlt x (List.mem_append_right _ hx)) (fun x hx => hs x (List.mem_append_right _ hx)))

theorem law_post {f : Func} {s : ChangeSpec} {W W' : World} {args : Array Value} {ds gs : List (DataW H)} {before : List MemPlace} {tb : TypeId} (hl : laidOutB P = true)
    (hpar : f.params.toList.all (fun t => P.readableRec t && decide (t < P.types.size)) = true) (hrt : f.resultTypes = #[tb]) (ht : P.underlying tb = some .bool) (hv : s.vars = [])
    (hW : DataW.Whole enc P f.params.toList s.vars false W args.toList ds gs before) (hfn : s.fn H (ds ++ gs) = { results := [.lit (.bool true)], args := ds }) (hb : Below W.heap.size W W') :
    s.post enc P f false true false false W args (.bool true) W' := by
  obtain ⟨p, q, hA, hV, hps, hz, hn⟩ := id hW
  have hlt : ∀ x ∈ before, x.block < W.heap.size := fun x hx => hW.lt x hx
  have hq : q = [] := by
    rw [hv] at hV
    cases gs with
    | nil => exact hV
    | cons g gs => exact hV.elim
  subst hq
  rw [List.append_nil] at hps
  subst hps
  have hargs : ∀ sp : Nat → Bool, (∀ x ∈ before, sp x.block = true) → DataW.TrodAll enc P W' 0 sp true f.params.toList args.toList (s.fn H (ds ++ gs)).args before := fun sp hs => by
    rw [hfn]
    exact trodAll_stays hl hb hpar hA hlt hs
  have hres : ∀ (b : Nat) (sp : Nat → Bool) (hd : Bool), DataW.TrodAll enc P W' b sp hd f.resultTypes.toList ((Value.bool true).resultList f.resultTypes.size) (s.fn H (ds ++ gs)).results [] := fun b sp hd => by
    rw [hfn, hrt]
    exact trodAll_mk1 (shut_bool ht true)
  have hvars : ∀ sp : Nat → Bool, DataW.TrodVars enc P W' sp s.vars (s.fn H (ds ++ gs)).vars [] := fun sp => by
    rw [hfn, hv]
    rfl
  refine ⟨ds, gs, before, [], before, [], hW, hres _ _ _, hargs _ (fun x hx => by simpa using hlt x hx), hvars _, World.keptBut_mono (fun x hx => ⟨hx, .inr (.inl hx)⟩) (hb.frame (· ∈ before)), fun _ => ?_⟩
  refine ⟨ok_one hrt rfl (okWide_bool_mk ht _), _, _, ([] ++ before) ++ [], ⟨[] ++ before, [], trodAll_append (hargs _ (fun _ _ => rfl)) (hres _ _ _), hvars _, rfl, ?_, ?_⟩, ?_⟩
  · intro b off hp
    have hin : MemPlace.cell b off ∈ before := by simpa using hp
    rw [hb.frozen (hlt _ hin)]
    exact hz b off hin
  · intro ha; cases ha
  · intro x hx _
    simpa using hx
end
end Go.Proofs.YtdbkkldgobkjcaaGreat
