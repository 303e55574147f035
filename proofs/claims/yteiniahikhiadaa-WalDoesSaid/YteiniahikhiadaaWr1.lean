/-
  the log: its entries, gone over; the laws' list of them.
  the log: the law Rooms.
  arguments opened: a slice of bytes, a slice of ints, wherever they stand.
  arguments opened: a slice of anything that can be read.
  arguments opened: a slice of slices of bytes.
  the row WalRooms.
-/
import Derived.Test.YteiniahikhiadaaWn7
import Derived.Test.YteiniahikhiadaaWn2
import Derived.SizedLaws
import Derived.Deep.Slices
import Derived.Deep.Fields
import Derived.ChangeSame

set_option linter.unusedVariables false
set_option linter.unusedSimpArgs false
namespace Go.Proofs.Yteiniahikhiadaa
open Go.RowKit Go.Maps
namespace Wa
open Ce Se It
attribute [local go_sem] Oper.semAt_some
theorem Kpx_ents {Xk Fr : Nat → Prop} {A B : World} (hk : Kp.KpX Xk A B) (hF : ∀ i, Fr i → ¬ Xk i) : ∀ {vs : List Value} {ls : List (List UInt8)}, Ents A Fr vs ls → Ents B Fr vs ls
  | [], [], _ => trivial
  | _ :: _, _ :: _, h => ⟨by
      obtain ⟨lo, hi, h1, h2, h3⟩ := h.1
      exact ⟨lo, hi, hk.sl h1 (fun i a b => hF i (h3 i a b)), Nat.le_trans h2 hk.size, h3⟩, Kpx_ents hk hF h.2⟩
theorem slAt {w : World} {lo hi n c k : Nat} {A : Option Addr} {vs : List Value} {v : Value} (h : Sl w lo hi 1 (.slice A n c) n vs) (hk : k < n) (hv : vs[k]? = some v) :
    ∃ b o, A = some ⟨b, o, none⟩ ∧ lo ≤ b ∧ b < hi ∧ w.cell? ⟨b, o + k, none⟩ = some v := by
  obtain ⟨A', c', e, h1, h2, h3⟩ := h.at_
  cases e
  obtain ⟨b, o, ea, hl, hb, hc⟩ := h3 (by omega)
  exact ⟨b, o, ea, hl, hb, (hc k (by omega)).trans hv⟩
theorem ownsRow_wide {w : World} {lo lo' : Nat} {e : TypeId} {size n : Nat} {v : Value} {xs : List Value} (h : w.ownsRow lo e size v n xs) (hl : lo' ≤ lo) : w.ownsRow lo' e size v n xs := by
  refine ⟨h.1, h.2.elim Or.inl fun hx => .inr ?_⟩
  revert hx
  rintro ⟨g, cap, cur, rfl, hbg, hg⟩
  exact ⟨g, cap, cur, rfl, Nat.le_trans hl hbg, hg⟩

/-- a write that hits no cells leaves a slice as it is -/
theorem sl_keep {A B : World} {row : Option Nat} {lo hi size n : Nat} {v : Value} {xs : List Value} (h : Sl A lo hi size v n xs) (hg : A.grownBy B row) (hr : ∀ r, row = some r → ∃ o : Obj, A.heap[r]? = some o ∧ o.isCells = false) (hh : hi ≤ A.heap.size) : Sl B lo hi size v n xs := by
  refine ⟨h.len, ?_⟩
  obtain ⟨A', c, e, h1, h2, h3⟩ := h.at_
  refine ⟨A', c, e, h1, h2, fun hn => ?_⟩
  obtain ⟨b, o, ea, hl, hb, hc⟩ := h3 hn
  refine ⟨b, o, ea, hl, hb, fun j hj => ?_⟩
  have hj2 : j < xs.length := by rw [h.len]; exact hj
  have e2 : xs[j]? = some xs[j] := List.getElem?_eq_getElem hj2
  rw [e2]
  have h4 := (hc j hj).trans e2
  refine (World.cell?_of_block (hg.block b (by omega) fun e => ?_)).trans h4
  obtain ⟨u, h5, h6⟩ := hr b e.symm
  unfold World.cell? at h4
  rw [h5] at h4
  cases u <;> first | (cases h6; done) | (cases h4; done)
theorem KpX_below {A B : World} {c : Nat} (h : Below c A B) (hc : c ≤ A.heap.size) : Kp.KpX (fun i => c ≤ i) A B :=
  ⟨h.os, h.tape, h.output, h.size, fun b o h1 h2 _ => (h.block b (by omega)).trans h1⟩
theorem string_info : (Try.prog.info? 9).map (fun i => (i.zero, i.size, i.bytes)) = some (some (.string ⟨#[]⟩), 1, 16) := by kernel_rfl
theorem range_succ_ (k : Nat) : List.range (k + 1) = List.range k ++ [k] := List.range_succ
set_option maxRecDepth 100000 in
set_option maxHeartbeats 4000000 in
/-- Entries of a log in memory: index and a copy, each in its turn -/
theorem entries_reads (n : Nat) (hn : 1 ≤ n) (Bs b : Nat) (Xk Fr : Nat → Prop) (A : Option Addr) (c lo hi : Nat) (vs : List Value) (es : List (List UInt8)) (w : World) (hbs : Ob w Bs 28 #[.pointer (some ⟨b, 0, none⟩)])
    (hob : w.cell? ⟨b, 3, none⟩ = some (.slice A es.length c)) (hsl : Sl w lo hi 1 (.slice A es.length c) es.length vs) (hent : Ents w Fr vs es)
    (hbl : b < w.heap.size) (hhi : hi ≤ w.heap.size) (hxb : ¬ Xk Bs) (hxl : ¬ Xk b) (hxs : ∀ i, lo ≤ i → i < hi → ¬ Xk i) (hxf : ∀ i, Fr i → ¬ Xk i) (hbig : ∀ l ∈ es, l.length ≤ 140737488351232) :
    Rv.Reads Fence.wide n Try.prog 55 #[.pointer (some ⟨Bs, 0, none⟩)] (fun (k : Nat) (v : Array Value) (W : World) => ∃ sv, v = #[.int .i64 k, sv] ∧ BytesAt W w.heap.size W.heap.size sv (es.getD k [])) (Kp.KpX Xk) (fun xs => xs = List.range es.length) (fun _ => True) (fun pre k => k = pre.length ∧ k < es.length) w := by
  intro l J Jx W hW hJ hJx hY h0
  have hB := hbs.same hW
  have cB : W.cell? ⟨Bs, 0, none⟩ = some (.pointer (some ⟨b, 0, none⟩)) := hB.cell (j := 0) rfl
  have c3 : W.cell? ⟨b, 3, none⟩ = some (.slice A es.length c) := (hW.cell (p := ⟨b, 3, none⟩) hbl).trans hob
  have hS := Sl.below hsl (hW.mono hhi)
  have hE := hent.same hW
  have hmax : es.length ≤ 9223372036854775807 := by
    obtain ⟨A', c', e, h1, h2, -⟩ := hsl.at_
    unfold maxLen at h2
    omega
  have hws := hW.size
  clear hbs hob hsl hent
  refine callsIn_of_wp Try.func55 rfl trivial ?_ rfl
  simp only [Try.ntmps55, List.size_toArray, List.length_cons, List.length_nil, Nat.reduceAdd, Nat.reduceSub, Array.replicate_succ, Array.replicate_zero, List.push_toArray, List.append_toArray, List.nil_append, List.cons_append]
  have HS := Lib.hid hS
  have HE := Lib.hid hE
  have HY := Lib.hid hY
  clear hS hE hY
  gi_wp2
  have hJ1 : J (List.range 0) W := h0
  gi_loopw [3, 4, 12] (fun _ _ i wr => ∃ k : Nat, k ≤ es.length ∧ i = .int .i64 k ∧ J (List.range k) wr ∧ Ob wr Bs 28 #[.pointer (some ⟨b, 0, none⟩)] ∧ wr.cell? ⟨b, 3, none⟩ = some (.slice A es.length c) ∧ Sl wr lo hi 1 (.slice A es.length c) es.length vs ∧ Ents wr Fr vs es ∧ W.heap.size ≤ wr.heap.size) (fun _ _ i _ => es.length - (intOf i).toNat)
  case atStart => exact ⟨0, by omega, rfl, hJ1, hB, c3, HS.out, HE.out, Nat.le_refl _⟩
  case round =>
    obtain ⟨k, hk, rfl, hJr, hBr, cr, hSr, hEr, hsr⟩ := hrel
    clear hJ1 hB c3 cB HS HE
    by_cases hlt : k < es.length
    · skip
      obtain ⟨v, hv, hEv⟩ := hEr.get k hlt
      obtain ⟨kb, ko, rfl, hk1, hk2, hck⟩ := slAt hSr hlt hv
      have hd : decide (k < es.length) = true := by simpa using hlt
      obtain ⟨Av, cv, rfl, -⟩ := hEv.bytes.form
      have hbk : es[k].length ≤ 140737488351232 := hbig _ (List.getElem_mem hlt)
      have cC := Lib.hid (cloneb_calls es[k] _ wr hEv.bytes hbk)
      have HSr := Lib.hid hSr
      have HEr := Lib.hid hEr
      have HBr := Lib.hid hBr
      have HJr := Lib.hid hJr
      have cBr : wr.cell? ⟨Bs, 0, none⟩ = some (.pointer (some ⟨b, 0, none⟩)) := hBr.cell (j := 0) rfl
      have HG := Lib.hid (show es.getD k [] = es[k] by simp [List.getD, hlt])
      have HY2 := Lib.hid (fun W1 v (h1 : J (List.range k) W1) h3 => HY.out (List.range k) k v W1 h1 ⟨by simp, hlt⟩ h3)
      clear hSr hEr hBr hJr hEv hv hbk HY
      gi_wp2_with (refine ⟨trivial, ?_⟩; gi_at_call 54; refine (callsIn_wide.2 cC.out).mono ?_; rintro e W2 ⟨⟨sv, rfl, hsv⟩, hb2⟩; obtain ⟨As, cs, rfl, -⟩ := (BytesAt.of_own hsv).form)
      have hJ3 := hJ _ _ _ none HJr.out (only_of_below hb2 none) (fun r e => by cases e)
      have hR3 : BytesAt W2 w.heap.size W2.heap.size (.slice As es[k].length cs) (es.getD k []) := by
        rw [HG.out]
        exact (BytesAt.of_own hsv).wide (by omega) (Nat.le_refl _)
      obtain ⟨fn, tmps, assign, body, hy, hR⟩ := HY2.out _ _ hJ3 ⟨_, rfl, hR3⟩
      rw [show Sem.run _ _ _ = _ from hy]
      gi_wp2
      refine hR.mono ?_
      have hB3 := HBr.out.same hb2
      have hS3 := Sl.below HSr.out (hb2.mono (by omega))
      have hE3 := HEr.out.same hb2
      have hs3 := hb2.size
      have hc3 := (hb2.cell (p := ⟨b, 3, none⟩) (show b < _ by omega)).trans cr
      clear hJ3 hR3 hsv cC HG
      rintro e W4 (⟨rfl, hJ4, hk4⟩ | ⟨rfl, hJx4⟩)
      · rw [← range_succ_] at hJ4
        gi_wp2
        go_roundw
        case rel => exact ⟨k + 1, by omega, by go_num, hJ4, hk4.ob hB3 hxb, hk4.cell hc3 hxl, hk4.sl hS3 hxs, Kpx_ents hk4 hxf hE3, by have := hk4.size; omega⟩
        case measure => simp [intOf]; omega
      · gi_wp2
        refine bodyPost_ret (results_none rfl _ _ _) rfl ?_
        exact ⟨⟨_, rfl⟩, .inr ⟨_, trivial, hJx4⟩⟩
    · obtain rfl : k = es.length := by omega
      have hd : decide (es.length < es.length) = false := by simp
      clear HY
      gi_wp2
      go_end0
      exact ⟨⟨_, rfl⟩, .inl ⟨_, rfl, hJr⟩⟩
def strV (l : List (List UInt8)) : List Value := l.map fun b => .string ⟨b.toArray⟩
/-- Len, from the one cell that it looks at -/
theorem wlen_cell (b n c : Nat) (A : Option Addr) (w : World) (h : w.cell? ⟨b, 3, none⟩ = some (.slice A n c)) :
    Calls Try.prog 24 #[.pointer (some ⟨b, 0, none⟩)] w fun e w' => e = .returned (.int .i64 n) ∧ w = w' := by
  go_enter Try.func24, Try.ntmps24
  go_wp2
  go_ret
  exact ⟨rfl, rfl⟩
set_option maxRecDepth 100000 in
set_option maxHeartbeats 4000000 in
/-- the laws' list of a log: its entries as strings -/
theorem list_calls {base b d sb mb : Nat} {X Y : Nat → Prop} {D : Dv} {L : Lg} (w : World) (h : LgAt w base b d sb mb X Y D L) :
    Calls Try.prog 19 #[.pointer (some ⟨b, 0, none⟩)] w fun e w' => (∃ v, e = .returned (.tuple #[v, .bool true]) ∧ w'.ownsRow w.heap.size 9 1 v L.es.length (strV L.es)) ∧ Below w.heap.size w w' := by
  have heq := eql_nilE
  obtain ⟨i0, hi0, hz0⟩ := Option.map_eq_some_iff.1 string_info
  simp only [Prod.mk.injEq] at hz0
  obtain ⟨hz0, hz1, hz2⟩ := hz0
  refine (callsIn_wide (n := 6)).1 ?_
  refine callsIn_of_wp_marks Try.func19 rfl trivial ?_ rfl
  simp only [Try.ntmps19, List.size_toArray, List.length_cons, List.length_nil, Nat.reduceAdd, Nat.reduceSub, Array.replicate_succ, Array.replicate_zero, List.push_toArray, List.append_toArray, List.nil_append, List.cons_append]
  gi_wp2_with (refine ⟨trivial, ?_⟩; gi_at_call 22; refine (callsIn_wide.2 (entries_made _ _)).mono ?_; rintro e w' ⟨rfl, rfl⟩)
  gi_wp2
  have hB3 : Below w.heap.size w (((w.alloc (.cells #[.slice none 0 0] 37)).alloc (.cells #[.bool false] 4)).alloc (.cells #[.pointer (some ⟨b, 0, none⟩)] 28)) := (((Below.refl _ w).alloc (Nat.le_refl _) _).alloc (by simp) _).alloc (by simp; omega) _
  have o1 := ((Ob.new w 37 #[.slice none 0 0]).alloc (.cells #[.bool false] 4)).alloc (.cells #[.pointer (some ⟨b, 0, none⟩)] 28)
  have o2 := (Ob.new (w.alloc (.cells #[.slice none 0 0] 37)) 4 #[.bool false]).alloc (.cells #[.pointer (some ⟨b, 0, none⟩)] 28)
  have o3 := Ob.new ((w.alloc (.cells #[.slice none 0 0] 37)).alloc (.cells #[.bool false] 4)) 28 #[.pointer (some ⟨b, 0, none⟩)]
  simp only [World.size_alloc] at o2 o3
  have hs3 : w.heap.size + 1 + 1 + 1 = (((w.alloc (.cells #[.slice none 0 0] 37)).alloc (.cells #[.bool false] 4)).alloc (.cells #[.pointer (some ⟨b, 0, none⟩)] 28)).heap.size := by simp
  generalize (((w.alloc (.cells #[.slice none 0 0] 37)).alloc (.cells #[.bool false] 4)).alloc (.cells #[.pointer (some ⟨b, 0, none⟩)] 28)) = w3 at *
  obtain ⟨ev, tv, vs, l1, l2, l3, l4, l5, l6⟩ := h.lg
  have e3 := l1.cell (j := 3) (v := ev) rfl
  obtain ⟨Ae, ce, rfl, -⟩ := (Sl.of_own l2).at_
  have hfit := h.ok.fits
  have hlen4 := h.dv.len
  have hz : szD D ≤ 8191 := by unfold szD; omega
  have hcnt : L.es.length ≤ 600000 := by
    have := strm_cnt L.es
    omega
  have hbig : ∀ l ∈ L.es, l.length ≤ 140737488351232 := fun l hl => by have := h.ok.ok l hl; omega
  have hyx := h.y
  have hbl : b < w.heap.size := (hyx b (h.xy b h.x.1)).2
  have hslE : Sl w3 0 w.heap.size 1 (.slice Ae L.es.length ce) L.es.length vs := Sl.below ((Sl.of_own l2).wide (Nat.zero_le _) (Nat.le_refl _)) hB3
  replace e3 := (hB3.cell (p := ⟨b, 3, none⟩) hbl).trans e3
  replace l5 := l5.same hB3
  have o4 := Ob.new w3 37 #[.slice none 0 0]
  have hB4 := hB3.alloc (by omega) (.cells #[.slice none 0 0] 37)
  have hb34 := (Below.refl w3.heap.size w3).alloc (Nat.le_refl _) (.cells #[.slice none 0 0] 37)
  have p1 := o1.alloc (.cells #[.slice none 0 0] 37)
  have p2 := o2.alloc (.cells #[.slice none 0 0] 37)
  have hs4 : w3.heap.size + 1 = (w3.alloc (.cells #[.slice none 0 0] 37)).heap.size := by simp
  rw [← hs3] at o4
  have hs3a : w.heap.size + 1 + 1 + 1 ≤ w3.heap.size := by omega
  have hs3b : w3.heap.size ≤ w.heap.size + 1 + 1 + 1 := by omega
  clear hs3
  generalize w3.alloc (.cells #[.slice none 0 0] 37) = w4 at *
  have hER := entries_reads 5 (by omega) (w.heap.size + 1 + 1) b (fun i => w.heap.size + 1 + 1 + 1 ≤ i) (fun i => Y i ∧ ¬ X i) Ae ce 0 w.heap.size vs L.es w3 o3 e3 hslE l5 (by omega) (by omega) (by omega) (by omega) (fun i _ h => by omega) (fun i hi => by have := (hyx i hi.1).2; omega) hbig
  refine Rv.range_reads (n := 6) rfl (by omega) (gf := 55) rfl trivial (enters_of Try.func55 (by kernel_rfl) rfl)
    hER hb34 (fun h k => h.trans k) (fun W l r r' hl h => Kp.KpX.loop h) (fun d v W h => by obtain ⟨sv, rfl, -⟩ := h; rfl)
    (fun pre V => Ob V w.heap.size 37 #[.slice none 0 0] ∧ Ob V (w.heap.size + 1) 4 #[.bool false] ∧ Below (w.heap.size + 1 + 1 + 1) w4 V ∧ pre.length ≤ L.es.length ∧ ∃ u, Boxed V (w.heap.size + 1 + 1 + 1) 37 u ∧ V.ownsRow (w.heap.size + 1 + 1 + 1) 9 1 u pre.length (strV (L.es.take pre.length)))
    (fun _ _ _ => False)
    (fun s A B row hs hg hr => ⟨Kp.ob_keep hs.1 hg (fun r e => (hr r e).2), Kp.ob_keep hs.2.1 hg (fun r e => (hr r e).2), ownFrom_below (B := w4.heap.size) (by omega) (by omega) s A B row hs.2.2.1 hg hr, hs.2.2.2.1, by
      obtain ⟨u, h1, h2⟩ := hs.2.2.2.2
      exact ⟨u, boxed_keep h1 hg (fun r e => (hr r e).2), row_keep h2 hg (fun r e => (hr r e).2)⟩⟩)
    (fun c s A B row hs hg hr => hs.elim)
    ⟨p1, p2, Below.refl _ _, Nat.zero_le _, _, o4, World.ownsRow_nil _ _ _ _⟩ ?round ?done ?stop
  case stop => exact fun D c pre W _ _ h => h.elim
  case round =>
    rintro l pre d v W hl ⟨q1, q2, hB, hlp, u, hbv, hown⟩ ⟨rfl, hlt⟩ ⟨sv, rfl, hsv⟩
    obtain ⟨As, cs, rfl, -⟩ := hsv.form
    obtain ⟨Au, cu, rfl, -⟩ := (Sl.of_own hown).at_
    clear hER hslE l5 l6 l1 l2 l3 l4 e3 o1 o2 o3 o4 p1 p2
    gi_wp2
    refine ⟨keeps_below _ (Below.refl _ _), Kp.KpX.refl _ _, fun W2 hg2 ho2 => ?_⟩
    replace q1 := Kp.ob_keep q1 hg2 (fun r e => by cases e; exact ho2)
    replace q2 := Kp.ob_keep q2 hg2 (fun r e => by cases e; exact ho2)
    replace hbv := boxed_keep hbv hg2 (fun r e => by cases e; exact ho2)
    replace hown := row_keep hown hg2 (fun r e => by cases e; exact ho2)
    have hsl : BytesAt W2 0 W2.heap.size _ _ := (sl_keep hsv hg2 (fun r e => by cases e; exact ho2) (Nat.le_refl _)).wide (Nat.zero_le _) hg2.size
    replace hB := hB.grown hg2 (by have := hB.size; omega) (fun k e => by cases e; omega)
    have hG : L.es.getD pre.length [] = L.es[pre.length] := by simp [List.getD, hlt]
    rw [hG] at hsl
    have hst := string_of W2 hsl
    have hTK := Lib.hid (show strV (L.es.take (pre.length + 1)) = strV (L.es.take pre.length) ++ [.string ⟨L.es[pre.length].toArray⟩] by unfold strV; rw [List.take_succ_eq_append_getElem hlt, List.map_append]; rfl)
    have hPL := Lib.hid (show ∀ k, (pre ++ [k]).length = pre.length + 1 from fun k => by simp)
    have hlt' := hlt
    generalize L.es[pre.length] = y at *
    generalize pre.length = k at *
    have hq : ((k : Int) != (k : Int)) = false := by simp
    have hcv := hbv.cell
    have hfv := hbv.frozen
    clear hsv ho2 hg2 hsl hG
    have hsB := hB.size
    gi_wp2_with (gi_at_builtin
                 refine wpListIn_append_sl _ rfl (.tmp 19) (.tmp 22) _ rfl (w.heap.size + 1 + 1 + 1) 9 i0 _ 1 16 Try.underlying37 hi0 hz0 hz1 hz2 rfl (by omega) _ k (strV (L.es.take k)) rfl (hown.alloc _) W2.heap.size (W2.heap.size + 1) _ 1 [.string ⟨y.toArray⟩] rfl (Sl.new W2 #[.string ⟨y.toArray⟩] 9 (n := 1) rfl (by unfold maxLen; omega)) (by simp [Value.oneCell']) (by unfold maxLen; omega) (by omega) (by simp; omega) ?_
                 intro v1 W3 hv1 hg1 hat1
                 obtain ⟨k1, k2, k3, k4, k5⟩ := hbv.appended (by decide) hown (by omega) (by omega) hv1 hg1
                 obtain ⟨g, cap, rfl⟩ := ownsRow_succ hv1
                 have n1 := Boxed.not_row q1 (by decide) hown
                 have n2 := Boxed.not_row q2 (by decide) hown
                 have hcv2 := k1.cell
                 have hfv2 := k1.frozen)
    refine ⟨k4.from _, KpX_below k5 (by omega), ((q1.alloc _).kept hg1 n1).other (show w.heap.size ≠ w.heap.size + 1 + 1 + 1 by omega) 0 _, ((q2.alloc _).kept hg1 n2).other (show w.heap.size + 1 ≠ w.heap.size + 1 + 1 + 1 by omega) 0 _, hB.trans k5, by rw [hPL.out]; omega, _, k2, ?_⟩
    rw [hPL.out, hTK.out]
    exact k3
  case done =>
    rintro D' xs V hD rfl ⟨q1, q2, hB, -, u, hbv, hown⟩ hK
    rw [List.length_range, List.take_length] at hown
    obtain ⟨Au, cu, rfl, -⟩ := (Sl.of_own hown).at_
    have h4 : LgAt V base b d sb mb X Y D L := (h.same hB4).kept (Kept.of_below hB fun i hi => by have := (hyx i hi).2; omega)
    obtain ⟨ev4, tv4, vs4, m1, m2, -⟩ := h4.lg
    have e34 := m1.cell (j := 3) (v := ev4) rfl
    obtain ⟨A4, c4, rfl, -⟩ := (Sl.of_own m2).at_
    have hcv := hbv.cell
    have hbq := hB.size
    have hq : ((L.es.length : Int) == (L.es.length : Int)) = true := by simp
    clear hER hslE l5 l6 l1 l2 l3 l4 e3 o1 o2 o3 o4 p1 p2 h4 m1 m2
    obtain ⟨SV, hSV⟩ : ∃ SV, SV = strV L.es := ⟨_, rfl⟩
    rw [← hSV] at hown
    have HSV := Lib.hid hSV
    clear hSV
    generalize hk : L.es.length = k at *
    have HKK := Lib.hid hk
    clear hk
    have q1d : Ob V.drew w.heap.size 37 #[.slice none 0 0] := q1
    have q2d : Ob V.drew (w.heap.size + 1) 4 #[.bool false] := q2
    have hbd : Ob V.drew (w.heap.size + 1 + 1 + 1) 37 #[.slice Au k cu] := hbv
    have hed : V.drew.cell? ⟨b, 3, none⟩ = some (.slice A4 k c4) := e34
    have hod : V.drew.ownsRow (w.heap.size + 1 + 1 + 1) 9 1 (.slice Au k cu) k SV := hown
    have hKd : V.drew.heap[D']? = some (.deferred (some [])) := hK
    have hBd : Below w.heap.size w V.drew := hB4.trans ((hB.mono (by omega)).trans ((Below.refl _ V).drew))
    clear q1 q2 hbv e34 hown hK hB hcv
    gi_wp2
    refine wpIn_wide.2 ?_
    refine Pu.regionM [(0, false), (1, false), (2, false), (3, false), (4, false), (5, false), (6, true), (7, true)] (fun U => Ob U (w.heap.size + 1 + 1 + 1) 37 #[.slice Au k cu] ∧ U.cell? ⟨b, 3, none⟩ = some (.slice A4 k c4)) hmx (by kernel_rfl) (by kernel_rfl) (by kernel_rfl) ⟨hbd, hed⟩ rfl ?_
    generalize V.drew = V0 at *
    simp only [Pu.named, List.filterMap_cons, List.filterMap_nil, List.getElem?_toArray, List.getElem?_cons_succ, List.getElem?_cons_zero, Option.map_some]
    iterate 4 (apply Pu.WalkM.on (by rfl)
               · rintro V ⟨j0, j1⟩
                 have z0 := j0.cell (j := 0) (v := .slice Au k cu) rfl
                 go_wp2_with fail
                 refine ⟨rfl, ?_, rfl⟩
                 try simp only [Act.put, List.setIfInBounds_toArray, List.set_cons_succ, List.set_cons_zero]
                 rfl
               simp only [Act.put, List.setIfInBounds_toArray, List.set_cons_succ, List.set_cons_zero])
    iterate 1 (apply Pu.WalkM.on (by rfl)
               · rintro V ⟨j0, j1⟩
                 go_wp2_with (go_at_call 24; refine (wlen_cell b k c4 A4 _ j1).mono ?_; rintro e W1 ⟨rfl, rfl⟩)
                 refine ⟨rfl, ?_, rfl⟩
                 try simp only [Act.put, List.setIfInBounds_toArray, List.set_cons_succ, List.set_cons_zero]
                 rfl
               simp only [Act.put, List.setIfInBounds_toArray, List.set_cons_succ, List.set_cons_zero])
    iterate 1 (apply Pu.WalkM.on (by rfl)
               · rintro V hV
                 go_wp2_with fail
                 refine ⟨rfl, ?_, rfl⟩
                 try simp only [Act.put, List.setIfInBounds_toArray, List.set_cons_succ, List.set_cons_zero]
                 rfl
               simp only [Act.put, List.setIfInBounds_toArray, List.set_cons_succ, List.set_cons_zero])
    have c1 := q1d.cell (j := 0) (v := .slice none 0 0) rfl
    have f1 := q1d.frozen 0
    have ne1 : some w.heap.size ≠ (Value.slice Au k cu).ownBlock := Boxed.not_row q1d (by decide) hod
    have ne2 : some (w.heap.size + 1) ≠ (Value.slice Au k cu).ownBlock := Boxed.not_row q2d (by decide) hod
    refine Pu.WalkM.make (by rfl) ?_
    rintro U rfl
    go_wp2_with fail
    have q1e := q1d.set 0 (.slice Au k cu)
    have q2e := q2d.other (show w.heap.size + 1 ≠ w.heap.size by omega) 0 (.slice Au k cu)
    have hoe := hod.kept (grownBy_set U w.heap.size 0 (.slice Au k cu)) (.inr ne1.symm)
    have hbe := hbd.other (show w.heap.size + 1 + 1 + 1 ≠ w.heap.size by omega) 0 (.slice Au k cu)
    have hee : (U.setCell ⟨w.heap.size, 0, none⟩ (.slice Au k cu)).cell? ⟨b, 3, none⟩ = some (.slice A4 k c4) := (grownBy_set U w.heap.size 0 (.slice Au k cu)).cell hed (fun e => by have := Option.some.inj e; dsimp only at this; omega)
    have hBe := hBd.grown (grownBy_set U w.heap.size 0 (.slice Au k cu)) (by have := hBd.size; omega) (fun j e => by cases e; omega)
    have hKe : (U.setCell ⟨w.heap.size, 0, none⟩ (.slice Au k cu)).heap[D']? = some (.deferred (some [])) := ((grownBy_set U w.heap.size 0 (.slice Au k cu)).block D' (Array.getElem?_eq_some_iff.1 hKd).1 (fun e => by cases e; omega)).trans hKd
    refine ⟨rfl, undef, (fun U => Ob U (w.heap.size + 1 + 1 + 1) 37 #[.slice Au k cu] ∧ U.cell? ⟨b, 3, none⟩ = some (.slice A4 k c4)), (fun V => V = U.setCell ⟨w.heap.size, 0, none⟩ (.slice Au k cu)), rfl, rfl, (fun V h => by rw [h]; exact ⟨hbe, hee⟩), (.inr (fun _ h => h)), ?_⟩
    simp only [Act.put]
    clear c1 f1 q1d q2d hod hbd hed hBd hKd
    generalize U.setCell ⟨w.heap.size, 0, none⟩ (.slice Au k cu) = U1 at *
    have c1 := q2e.cell (j := 0) (v := .bool false) rfl
    have f1 := q2e.frozen 0
    refine Pu.WalkM.make (by rfl) ?_
    rintro V rfl
    go_wp2_with fail
    have q1f := q1e.other (show w.heap.size ≠ w.heap.size + 1 by omega) 0 (.bool true)
    have q2f := q2e.set 0 (.bool true)
    have hof := hoe.kept (grownBy_set V (w.heap.size + 1) 0 (.bool true)) (.inr ne2.symm)
    have hBf := hBe.grown (grownBy_set V (w.heap.size + 1) 0 (.bool true)) (by have := hBe.size; omega) (fun j e => by cases e; omega)
    have hKf : (V.setCell ⟨w.heap.size + 1, 0, none⟩ (.bool true)).heap[D']? = some (.deferred (some [])) := ((grownBy_set V (w.heap.size + 1) 0 (.bool true)).block D' (Array.getElem?_eq_some_iff.1 hKe).1 (fun e => by cases e; omega)).trans hKe
    have hbf := hbe.other (show w.heap.size + 1 + 1 + 1 ≠ w.heap.size + 1 by omega) 0 (.bool true)
    have hef := (grownBy_set V (w.heap.size + 1) 0 (.bool true)).cell hee (fun e => by have := Option.some.inj e; dsimp only at this; omega)
    refine ⟨rfl, undef, (fun U => Ob U (w.heap.size + 1 + 1 + 1) 37 #[.slice Au k cu] ∧ U.cell? ⟨b, 3, none⟩ = some (.slice A4 k c4)), (fun X => X = V.setCell ⟨w.heap.size + 1, 0, none⟩ (.bool true)), rfl, rfl, (fun V h => by rw [h]; exact ⟨hbf, hef⟩), (.inr (fun _ h => h)), ?_⟩
    simp only [Act.put]
    clear c1 f1 q1e q2e hoe hbe hee hBe hKe
    generalize V.setCell ⟨w.heap.size + 1, 0, none⟩ (.bool true) = V1 at *
    refine Pu.WalkM.nil ?_
    rintro V2 rfl
    gi_wp2
    refine ⟨by simp, .inl ⟨_, _, rfl, run_takeDeferred hKf, ?_⟩⟩
    have hog := row_keep hof (grownBy_putObj' _ D' (.deferred none)) (fun r e => by cases e; exact ⟨_, hKf, rfl⟩)
    have g1 := (boxed_end q1f hKf).cell
    have g2 := (boxed_end q2f hKf).cell
    refine ⟨.tuple #[.slice Au k cu, .bool true], ?_, ⟨_, rfl, ?_⟩, below_end hBf (by omega) hKf⟩
    · simp [results, Try.f19, go_sem, g1, g2]
    · rw [HKK.out, ← HSV.out]
      exact ownsRow_wide hog (by omega)
end Wa
end Go.Proofs.Yteiniahikhiadaa

namespace Go.Proofs.Yteiniahikhiadaa
open Go.RowKit Go.Maps
namespace Wa
open Ce Se It
/-- what an append to a log that is laid down makes, in one -/
theorem Lay.appended {D : Dv} {n : Nat} {L : Lg} (h : Lay D n L.g L.half L.es) (hf : L.fin = false) (l : List UInt8) :
    ∃ D' L' a f, appendG writeD D L ((n - 2) / 2) l = (D', L', a, f) ∧ Lay D' n L'.g L'.half L'.es ∧ L'.fin = false ∧
      ((f = 3 ∧ 65536 < l.length ∧ roomL L' ((n - 2) / 2) = roomL L ((n - 2) / 2)) ∨ (f = 2 ∧ l.length ≤ 65536 ∧ roomL L ((n - 2) / 2) < (l.length : Int) + 3 ∧ roomL L' ((n - 2) / 2) = roomL L ((n - 2) / 2)) ∨
        (f = 0 ∧ l.length ≤ 65536 ∧ (l.length : Int) + 3 ≤ roomL L ((n - 2) / 2) ∧ roomL L' ((n - 2) / 2) = roomL L ((n - 2) / 2) - 3 - l.length)) := by
  rcases h.append hf l with ⟨h1, e⟩ | ⟨h1, h2, e⟩ | ⟨h1, h2, D', e, hl⟩
  · exact ⟨_, _, _, _, e, h, hf, .inl ⟨rfl, by omega, rfl⟩⟩
  · exact ⟨_, _, _, _, e, h, hf, .inr (.inl ⟨rfl, h1, by omega, rfl⟩)⟩
  · refine ⟨_, _, _, _, e, hl, hf, .inr (.inr ⟨rfl, h1, h2, ?_⟩)⟩
    have : used ({ L with es := L.es ++ [l] }) = used L + (3 + l.length) := by unfold used; dsimp only; rw [strm_snoc, List.length_append, encE_len]
    unfold roomL
    rw [this]
    omega
set_option maxRecDepth 100000 in
set_option maxHeartbeats 8000000 in
theorem rooms_law (sectors : Int) (l : List (List UInt8)) (lv : Value) (vals : List Value) (w : World) (hs : -9223372036854775808 ≤ sectors ∧ sectors ≤ 9223372036854775807) (hL : Sl w 0 w.heap.size 1 lv l.length vals) (hE : Ents w (fun i => i < w.heap.size) vals l) :
    Calls Try.prog 3 #[.int .i64 sectors, lv] w fun e w' => e = .returned (.bool true) ∧ Below w.heap.size w w' := by
  obtain ⟨Al, cl, rfl, hl1, hl2, -⟩ := hL.at_
  by_cases h4 : 4 ≤ sectors ∧ sectors ≤ 60
  case neg =>
    have hd : (decide (sectors < 4) || decide (sectors > 60)) = true := by simp; omega
    clear hs hL hE
    go_enter Try.func3, Try.ntmps3
    by_cases h0 : sectors < 4
    · have hd0 : decide (sectors < 4) = true := by simpa using h0
      go_wp2_with fail
      refine (lives_calls w).mono ?_
      rintro e w1 ⟨rfl, hb⟩
      go_wp2
      go_ret
      exact ⟨rfl, hb⟩
    · have hd0 : decide (sectors < 4) = false := by simpa using h0
      have hd1 : decide (sectors > 60) = true := by simp; omega
      go_wp2_with fail
      refine (lives_calls w).mono ?_
      rintro e w1 ⟨rfl, hb⟩
      go_wp2
      go_ret
      exact ⟨rfl, hb⟩
  obtain ⟨n, rfl⟩ : ∃ n : Nat, sectors = n := ⟨sectors.toNat, by omega⟩
  obtain ⟨D1, p1, hLay⟩ := openD_new (n := n) (by omega)
  have hd0 : decide ((n : Int) < 4) = false := by simp; omega
  have hd1 : decide ((n : Int) > 60) = false := by simp; omega
  have CN := Lib.hid (new_calls n w (by omega) (by omega))
  have HLl := Lib.hid hL
  have HEl := Lib.hid hE
  have HLay := Lib.hid hLay
  have H4 := Lib.hid h4
  clear hL hE hs h4 hLay
  go_enter Try.func3, Try.ntmps3
  go_wp2_with fail
  refine CN.out.mono ?_
  rintro e w1 ⟨⟨d, sb, mb, rfl, hD⟩, hB⟩
  go_wp2_with fail
  refine (lives_calls w1).mono ?_
  rintro e w1' ⟨rfl, hb1⟩
  have cO := open_calls (hD.same hb1)
  rw [p1] at cO
  have CO := Lib.hid cO
  have HLO := Lib.hid hD.lo
  have hB' := hB.trans (hb1.mono hB.size)
  clear cO hD hB hb1
  go_wp2_with fail
  refine CO.out.mono ?_
  rintro e w2 ⟨pv, rfl, -, hDv, -, hL⟩
  obtain ⟨b, X, Y, rfl, hLg, hY⟩ := hL _ rfl
  have hB2 : Below w.heap.size w w2 := hB'.trans (Dev.below hDv hB'.size (by have := HLO.out; omega))
  have HLg := Lib.hid hLg
  clear hL hLg hDv hB' CO hY p1
  go_wp2_with fail
  have hmx : Try.prog.follows .mixedOrders = true := by kernel_rfl
  go_loopw [8, 9, 10, 11, 12] (fun i _ _ _ _ wr => ∃ (k : Nat) (D : Dv) (L : Lg) (X Y : Nat → Prop), i = .int .i64 k ∧ k ≤ l.length ∧ k ≤ 60 ∧ LgAt wr w.heap.size b d sb mb X Y D L ∧ Lay D n L.g L.half L.es ∧ L.fin = false ∧ Below w.heap.size w wr) (fun i _ _ _ _ _ => 60 - (intOf i).toNat)
  case atStart => exact ⟨0, _, _, X, Y, rfl, by omega, by omega, HLg.out, HLay.out, rfl, hB2⟩
  case round =>
    obtain ⟨k, D, L, X, Y, rfl, hk, hk6, hLg, hLay, hfin, hB⟩ := hrel
    clear HLg HLay hB2
    by_cases hlt : k < l.length
    case neg =>
      obtain rfl : k = l.length := by omega
      have hd : decide ((l.length : Int) < (l.length : Int)) = false := by simp
      go_wp2
      go_ret
      exact ⟨rfl, hB⟩
    by_cases hk60 : k < 60
    case neg =>
      obtain rfl : k = 60 := by omega
      have hd : decide (((60 : Nat) : Int) < (l.length : Int)) = true := by simp; omega
      go_wp2
      go_ret
      exact ⟨rfl, hB⟩
    have hd : decide ((k : Int) < (l.length : Int)) = true := by simp; omega
    have hd6 : decide ((k : Int) < 60) = true := by simp; omega
    obtain ⟨v, hv, hEv⟩ := HEl.out.get k hlt
    have hSr := Sl.below HLl.out hB
    obtain ⟨kb, ko, rfl, -, hkb, hck⟩ := slAt hSr hlt hv
    have hEw := hEv.kept (Kept.of_below hB fun i hi => hi)
    obtain ⟨Av, cv, rfl, hcv1, hcv2⟩ := hEw.bytes.form
    unfold maxLen at hcv2
    have hz := hLay.szD
    obtain ⟨D', L', a, f, ha, hLay', hfin', hcase⟩ := hLay.appended hfin l[k]
    have hz' := hLay'.szD
    have hfit := hLay.fits
    have hR0 : roomL L ((n - 2) / 2) = 63 * (((n - 2) / 2 : Nat) : Int) - (used L : Nat) := rfl
    have hRb : roomL L ((n - 2) / 2) ≤ 2000 ∧ -1 ≤ roomL L ((n - 2) / 2) := by
      have := H4.out
      unfold used at hR0
      omega
    have cR := room_calls hLg
    rw [hz] at cR
    have CR := Lib.hid cR
    have HLg := Lib.hid hLg
    have HEw := Lib.hid hEw
    have HA := Lib.hid ha
    have HZ := Lib.hid hz
    have HZ' := Lib.hid hz'
    have HLay' := Lib.hid hLay'
    have HC := Lib.hid hcase
    have hll : l[k].length ≤ 9223372036854775807 := by omega
    clear cR hLg hEw ha hz hz' hLay' hcase hLay hR0 hfit hSr hEv
    go_wp2_with fail
    refine CR.out.mono ?_
    rintro e V1 ⟨rfl, hb1⟩
    have hck1 : V1.cell? ⟨kb, ko + k, none⟩ = some (.slice Av l[k].length cv) := (hb1.cell (p := ⟨kb, ko + k, none⟩) (show kb < _ by have := hB.size; omega)).trans hck
    have cA := append_calls (HLg.out.same hb1) ((HEw.out.same hb1).mono fun i hi hx => by have := (HLg.out.y i (HLg.out.xy i hx)).1; omega)
    rw [HZ.out, HA.out] at cA
    have CA := Lib.hid cA
    have hB1 := hB.trans (hb1.mono hB.size)
    have hs1 := hb1.size
    clear cA hb1 hck CR
    go_wp2_with fail
    refine CA.out.mono ?_
    rintro e V2 ⟨rfl, X', Y', hL2, hG2⟩
    have hB2 := hB1.trans (hG2.below hB1.size HLg.out.xlo)
    have hck2 : V2.cell? ⟨kb, ko + k, none⟩ = some (.slice Av l[k].length cv) := ((hG2.below hB1.size HLg.out.xlo).cell (p := ⟨kb, ko + k, none⟩) (show kb < _ by omega)).trans hck1
    have hckd : V2.drew.cell? ⟨kb, ko + k, none⟩ = some (.slice Av l[k].length cv) := hck2
    have hkd : kb < V2.drew.heap.size := show kb < V2.heap.size by have := hB2.size; omega
    have HR := Lib.hid (fun (R' : Int) (e : roomL L' ((n - 2) / 2) = R') (W : World) (h : Below V2.drew.heap.size V2.drew W) => (show Calls Try.prog 16 #[.pointer (some ⟨b, 0, none⟩)] W fun e w' => e = .returned (.int .i64 R') ∧ Below W.heap.size W w' by
      have c := room_calls ((hL2.same (Below.refl _ V2).drew).same h)
      rw [HZ'.out, e] at c
      exact c))
    clear HA hcv1 hG2
    generalize roomL L ((n - 2) / 2) = R at *
    generalize l[k].length = q at *
    rcases HC.out with ⟨rfl, c1, c2⟩ | ⟨rfl, c1, c2, c3⟩ | ⟨rfl, c1, c2, c3⟩
    · have q1 : decide ((q : Int) ≤ 65536) = false := by simp; omega
      have q2 : (R != R) = false := by simp
      have CR2 := Lib.hid (HR.out R c2)
      clear HR HC c2
      clear hck1 CA hv
      go_wp2
      clear hck2
      refine Pu.regionW (fun W' => Below V2.drew.heap.size V2.drew W') hmx (by kernel_rfl) (by kernel_rfl) (Below.refl _ _) rfl ?_
      iterate 30 (first
        | (refine Pu.Walk.off (by rfl) ?_; simp only [Act.put, List.setIfInBounds_toArray, List.set_cons_succ, List.set_cons_zero])
        | (apply Pu.Walk.on (by rfl)
           · intro W1 h1
             have hcW := (h1.cell (p := ⟨kb, ko + k, none⟩) (show kb < _ from hkd)).trans hckd
             go_wp2_with (go_at_call 16; refine (CR2.out _ h1).mono ?_; rintro e W2 ⟨rfl, hb⟩; replace h1 := h1.trans (hb.mono h1.size); clear hb)
             refine ⟨rfl, ?_, h1⟩
             try simp only [Act.put, List.setIfInBounds_toArray, List.set_cons_succ, List.set_cons_zero]
             rfl
           simp only [Act.put, List.setIfInBounds_toArray, List.set_cons_succ, List.set_cons_zero]))
      refine Pu.Walk.nil (fun W1 h1 => ?_)
      have hB3 := hB2.trans ((Below.refl V2.heap.size V2).drew.mono hB2.size) |>.trans (h1.mono (show w.heap.size ≤ V2.heap.size from hB2.size))
      have hL3 := (hL2.same (Below.refl _ V2).drew).same h1
      clear h1
      go_wp2
      go_roundw
      case rel => exact ⟨k + 1, D', L', X', Y', by go_num, by omega, by omega, hL3, HLay'.out, hfin', hB3⟩
      case measure => simp [intOf]; omega
    · have q1 : decide ((q : Int) ≤ 65536) = true := by simp; omega
      have q2 : decide ((q : Int) + 3 ≤ R) = false := by simp; omega
      have q3 : (R != R) = false := by simp
      have CR2 := Lib.hid (HR.out R c3)
      clear HR HC c3
      clear hck1 CA hv
      go_wp2
      clear hck2
      refine Pu.regionW (fun W' => Below V2.drew.heap.size V2.drew W') hmx (by kernel_rfl) (by kernel_rfl) (Below.refl _ _) rfl ?_
      iterate 30 (first
        | (refine Pu.Walk.off (by rfl) ?_; simp only [Act.put, List.setIfInBounds_toArray, List.set_cons_succ, List.set_cons_zero])
        | (apply Pu.Walk.on (by rfl)
           · intro W1 h1
             have hcW := (h1.cell (p := ⟨kb, ko + k, none⟩) (show kb < _ from hkd)).trans hckd
             go_wp2_with (go_at_call 16; refine (CR2.out _ h1).mono ?_; rintro e W2 ⟨rfl, hb⟩; replace h1 := h1.trans (hb.mono h1.size); clear hb)
             refine ⟨rfl, ?_, h1⟩
             try simp only [Act.put, List.setIfInBounds_toArray, List.set_cons_succ, List.set_cons_zero]
             rfl
           simp only [Act.put, List.setIfInBounds_toArray, List.set_cons_succ, List.set_cons_zero]))
      refine Pu.Walk.nil (fun W1 h1 => ?_)
      have hB3 := hB2.trans ((Below.refl V2.heap.size V2).drew.mono hB2.size) |>.trans (h1.mono (show w.heap.size ≤ V2.heap.size from hB2.size))
      have hL3 := (hL2.same (Below.refl _ V2).drew).same h1
      clear h1
      go_wp2
      go_roundw
      case rel => exact ⟨k + 1, D', L', X', Y', by go_num, by omega, by omega, hL3, HLay'.out, hfin', hB3⟩
      case measure => simp [intOf]; omega
    · have q1 : decide ((q : Int) ≤ 65536) = true := by simp; omega
      have q2 : decide ((q : Int) + 3 ≤ R) = true := by simp; omega
      have q3 : ((R - 3 - (q : Int)) != (R - 3 - (q : Int))) = false := by simp
      have CR2 := Lib.hid (HR.out (R - 3 - (q : Int)) c3)
      clear HR HC c3
      clear hck1 CA hv
      go_wp2
      clear hck2
      refine Pu.regionW (fun W' => Below V2.drew.heap.size V2.drew W') hmx (by kernel_rfl) (by kernel_rfl) (Below.refl _ _) rfl ?_
      iterate 30 (first
        | (refine Pu.Walk.off (by rfl) ?_; simp only [Act.put, List.setIfInBounds_toArray, List.set_cons_succ, List.set_cons_zero])
        | (apply Pu.Walk.on (by rfl)
           · intro W1 h1
             have hcW := (h1.cell (p := ⟨kb, ko + k, none⟩) (show kb < _ from hkd)).trans hckd
             go_wp2_with (go_at_call 16; refine (CR2.out _ h1).mono ?_; rintro e W2 ⟨rfl, hb⟩; replace h1 := h1.trans (hb.mono h1.size); clear hb)
             refine ⟨rfl, ?_, h1⟩
             try simp only [Act.put, List.setIfInBounds_toArray, List.set_cons_succ, List.set_cons_zero]
             rfl
           simp only [Act.put, List.setIfInBounds_toArray, List.set_cons_succ, List.set_cons_zero]))
      refine Pu.Walk.nil (fun W1 h1 => ?_)
      have hB3 := hB2.trans ((Below.refl V2.heap.size V2).drew.mono hB2.size) |>.trans (h1.mono (show w.heap.size ≤ V2.heap.size from hB2.size))
      have hL3 := (hL2.same (Below.refl _ V2).drew).same h1
      clear h1
      go_wp2
      go_roundw
      case rel => exact ⟨k + 1, D', L', X', Y', by go_num, by omega, by omega, hL3, HLay'.out, hfin', hB3⟩
      case measure => simp [intOf]; omega
end Wa
end Go.Proofs.Yteiniahikhiadaa

namespace Go.Proofs.Yteiniahikhiadaa
open Go.ChangeShapes Go.WideShapes Go.Deep Go.RowKit Go.ChangeAt
namespace Og
theorem cell_addr {w : World} {a : Addr} {v : Value} (h : w.cell? a = some v) : a.spot = none ∧ a.block < w.heap.size := by
  unfold World.cell? at h
  split at h
  · rename_i c _ _ hc
    refine ⟨?_, (Array.getElem?_eq_some_iff.1 hc).1⟩
    cases hs : a.spot with
    | none => rfl
    | some x => rw [hs] at h; simp at h
  · cases h
theorem addr_add (b o j : Nat) : (⟨b, o, none⟩ : Addr).add j = ⟨b, o + j, none⟩ := by unfold Addr.add; split <;> simp_all
/-- a list out of its elements' readings -/
theorem list_of {α : Type} (n : Nat) (p : Nat → α → Prop) (h : ∀ i, i < n → ∃ x, p i x) : ∃ l : List α, l.length = n ∧ ∀ i (hi : i < l.length), p i l[i] := by
  induction n with
  | zero => exact ⟨[], rfl, fun i hi => by simp at hi⟩
  | succ n ih =>
    obtain ⟨l, hl, hp⟩ := ih fun i hi => h i (by omega)
    obtain ⟨x, hx⟩ := h n (by omega)
    refine ⟨l ++ [x], by simp [hl], fun i hi => ?_⟩
    simp only [List.length_append, List.length_cons, List.length_nil] at hi
    by_cases e : i < l.length
    · rw [List.getElem_append_left e]; exact hp i e
    · obtain rfl : i = l.length := by omega
      simpa [hl] using hx
theorem spot_none {W : World} {a : Addr} {v : Value} (h : W.cell? a = some v) : ∃ b o, a = ⟨b, o, none⟩ ∧ b < W.heap.size := by
  have h1 := cell_addr h
  obtain ⟨b, o, sp⟩ := a
  obtain ⟨h1, h2⟩ := h1
  simp only at h1 h2
  subst h1
  exact ⟨b, o, rfl, h2⟩
theorem add_zero (a : Addr) : a.add 0 = a := by unfold Addr.add; simp
set_option maxRecDepth 100000 in
theorem bytes_of_trod {H : Type} {enc : TypeId × Value → H} {W : World} {v : Value} {x : DataW H × List MemPlace} {held : Bool} {fuel : Nat} (hf : DataW.trod enc Try.prog W 0 (fun _ => true) held fuel 34 [v] = some x) :
    ∃ L : List UInt8, Ce.BytesAt W 0 W.heap.size v L ∧ ((x.1 = .nil ∧ L = []) ∨ ∃ es sp, x.1 = .slice es sp ∧ es.length = L.length) := by
  rcases open_slice1 Try.underlying34 (show Try.prog.cellsOf 5 = 1 by kernel_rfl) hf with ⟨h1, h2⟩ | ⟨a, n, c, m, n', V, D, Pl, hcs, hb, hl, hm, hmm, hx, hi⟩
  · simp only [List.cons.injEq, and_true] at h1
    cases h1
    exact ⟨[], Ce.BytesAt.nil _ _ _, .inl ⟨by rw [h2], rfl⟩⟩
  · simp only [List.cons.injEq, and_true] at hcs
    cases hcs
    simp only [if_true] at hmm
    subst hmm
    have hel : ∀ i, i < n → ∃ x : UInt8, W.cell? (a.add i) = some (.int .u8 (x.toNat : Int)) := by
      intro i hin
      obtain ⟨hc, ht'⟩ := hi i (by omega)
      obtain ⟨k, e1, _, hk⟩ := DataW.trod_int Try.underlying5 ht'
      have hkb : 0 ≤ k ∧ k ≤ 255 := by simpa [Lit.wf, IntKind.min, IntKind.max, IntKind.signed, IntKind.bits] using hk
      simp only [List.cons.injEq, and_true] at e1
      refine ⟨UInt8.ofNat k.toNat, ?_⟩
      rw [Ce.toNat_ofNat (by omega), show ((k.toNat : Nat) : Int) = k by omega, hc, e1]
    obtain ⟨L, hLn, hL⟩ := list_of n _ hel
    refine ⟨L, ?_, .inr ⟨_, _, by rw [hx], by simp [hLn]⟩⟩
    rcases Nat.eq_zero_or_pos n with h0 | h0
    · subst h0
      obtain rfl : L = [] := List.eq_nil_of_length_eq_zero hLn
      exact ⟨rfl, _, _, rfl, hl, hm, fun h => by omega⟩
    · have h00 := hL 0 (by omega)
      rw [add_zero] at h00
      obtain ⟨b, o, rfl, hbW⟩ := spot_none h00
      subst hLn
      refine ⟨by rw [Ce.bytesV_length]; simp, _, _, rfl, hl, hm, fun _ => ⟨b, o, rfl, Nat.zero_le _, hbW, fun j hj => ?_⟩⟩
      have hj' : j < L.length := by simpa using hj
      have := hL j hj'
      rw [addr_add] at this
      rw [this]
      unfold Ce.bytesV
      rw [List.getElem?_map, List.getElem?_eq_getElem hj']
      rfl
set_option maxRecDepth 100000 in
theorem ints_of_trod {H : Type} {enc : TypeId × Value → H} {W : World} {v : Value} {x : DataW H × List MemPlace} {held : Bool} {fuel : Nat} (hf : DataW.trod enc Try.prog W 0 (fun _ => true) held fuel 41 [v] = some x) :
    ∃ L : List Int, IntsAt W 0 W.heap.size v L ∧ (∀ k ∈ L, -9223372036854775808 ≤ k ∧ k ≤ 9223372036854775807) ∧ ((x.1 = .nil ∧ L = []) ∨ ∃ es sp, x.1 = .slice es sp ∧ es.length = L.length) := by
  rcases open_slice1 Try.underlying41 (show Try.prog.cellsOf 3 = 1 by kernel_rfl) hf with ⟨h1, h2⟩ | ⟨a, n, c, m, n', V, D, Pl, hcs, hb, hl, hm, hmm, hx, hi⟩
  · simp only [List.cons.injEq, and_true] at h1
    cases h1
    exact ⟨[], IntsAt.nil _ _ _, (fun k hk => by cases hk), .inl ⟨by rw [h2], rfl⟩⟩
  · simp only [List.cons.injEq, and_true] at hcs
    cases hcs
    simp only [if_true] at hmm
    subst hmm
    have hel : ∀ i, i < n → ∃ k : Int, W.cell? (a.add i) = some (.int .i64 k) ∧ -9223372036854775808 ≤ k ∧ k ≤ 9223372036854775807 := by
      intro i hin
      obtain ⟨hc, ht'⟩ := hi i (by omega)
      obtain ⟨k, e1, _, hk⟩ := DataW.trod_int Try.underlying3 ht'
      simp only [List.cons.injEq, and_true] at e1
      exact ⟨k, by rw [hc, e1], by simpa [Lit.wf, IntKind.min, IntKind.max, IntKind.signed, IntKind.bits] using hk⟩
    obtain ⟨L, hLn, hL⟩ := list_of n _ hel
    refine ⟨L, ?_, (fun k hk => by obtain ⟨i, hi, rfl⟩ := List.getElem_of_mem hk; exact (hL i hi).2), .inr ⟨_, _, by rw [hx], by simp [hLn]⟩⟩
    rcases Nat.eq_zero_or_pos n with h0 | h0
    · subst h0
      obtain rfl : L = [] := List.eq_nil_of_length_eq_zero hLn
      exact ⟨rfl, _, _, rfl, hl, hm, fun h => by omega⟩
    · have h00 := (hL 0 (by omega)).1
      rw [add_zero] at h00
      obtain ⟨b, o, rfl, hbW⟩ := spot_none h00
      subst hLn
      refine ⟨by unfold ints; simp, _, _, rfl, hl, hm, fun _ => ⟨b, o, rfl, Nat.zero_le _, hbW, fun j hj => ?_⟩⟩
      have hj' : j < L.length := by simpa using hj
      have := (hL j hj').1
      rw [addr_add] at this
      rw [this]
      unfold ints
      rw [List.getElem?_map, List.getElem?_eq_getElem hj']
      rfl
end Og
end Go.Proofs.Yteiniahikhiadaa

namespace Go.Proofs.Yteiniahikhiadaa
open Go.ChangeShapes Go.WideShapes Go.Deep Go.RowKit Go.ChangeAt
section
variable {H : Type} {enc : TypeId × Value → H} {P : Program} {W : World} {held : Bool}
theorem slice_of_trod {t e : TypeId} {C fuel : Nat} {v : Value} {x : DataW H × List MemPlace} (ht : P.underlying t = some (.slice e)) (hC : P.cellsOf e = C) (hpos : 0 < C) (hf : DataW.trod enc P W 0 (fun _ => true) held fuel t [v] = some x) :
    ∃ (A : Option Addr) (n c : Nat), v = .slice A n c ∧ n ≤ c ∧ c ≤ maxLen ∧
      (∀ i, i < n → ∃ (b o : Nat) (cs : List Value) (y : DataW H × List MemPlace) (fuel' : Nat), A = some ⟨b, o, none⟩ ∧ b < W.heap.size ∧ cs.length = C ∧ (∀ j w, cs[j]? = some w → W.cell? ⟨b, o + i * C + j, none⟩ = some w) ∧ DataW.trod enc P W 0 (fun _ => true) held fuel' e cs = some y) ∧
      ((x.1 = .nil ∧ n = 0) ∨ ∃ es sp, x.1 = .slice es sp ∧ es.length = n) := by
  rcases open_slice ht hf with ⟨h1, h2⟩ | ⟨a, n, c, m, k, D, Pl, hcs, hb, hl, hm, hmm, hx, hi⟩
  · simp only [List.cons.injEq, and_true] at h1
    cases h1
    exact ⟨none, 0, 0, rfl, Nat.le_refl _, by unfold maxLen; omega, fun i hi => by omega, .inl ⟨by rw [h2], rfl⟩⟩
  · simp only [List.cons.injEq, and_true] at hcs
    cases hcs
    simp only [if_true] at hmm
    subst hmm
    rw [hC] at hi
    refine ⟨some a, n, _, rfl, hl, hm, fun i hin => ?_, .inr ⟨_, _, by rw [hx], by simp⟩⟩
    obtain ⟨cs0, hz, -⟩ := hi 0 (by omega)
    obtain ⟨_, hzl, hzt⟩ := World.cells?_some hz
    obtain ⟨w0, hw0⟩ : ∃ w, cs0[0]? = some w := ⟨_, List.getElem?_eq_getElem (by omega)⟩
    have hc0 := hzt (i := 0) hpos
    rw [hw0, Go.Deep.add_add] at hc0
    have hca := cell_addr hc0
    obtain ⟨cs', hc, ht'⟩ := hi i (by omega)
    obtain ⟨_, hcl, hat⟩ := World.cells?_some hc
    obtain ⟨b, o, sp⟩ := a
    have hsp : sp = none := by
      have := hca.1
      unfold Addr.add at this
      simpa using this
    subst hsp
    refine ⟨b, o, cs', _, _, rfl, ?_, hcl, fun j w hj => ?_, ht'⟩
    · have := hca.2
      rw [addr_add] at this
      exact this
    · have hjl : j < C := by rw [← hcl]; exact (List.getElem?_eq_some_iff.1 hj).1
      have := hat (i := j) hjl
      rw [hj, Go.Deep.add_add, addr_add] at this
      rw [← this]
      congr 2
      omega
end
end Go.Proofs.Yteiniahikhiadaa

namespace Go.Proofs.Yteiniahikhiadaa
open Go.ChangeShapes Go.WideShapes Go.Deep Go.RowKit Go.ChangeAt
namespace Wa
open Ce
theorem Ents.of {W : World} {Fr : Nat → Prop} : ∀ {ps : List (Value × List UInt8)}, (∀ p ∈ ps, EntAt W Fr p.1 p.2) → Ents W Fr (ps.map (·.1)) (ps.map (·.2))
  | [], _ => trivial
  | p :: r, h => ⟨h p (by simp), Ents.of fun q hq => h q (by simp [hq])⟩
set_option maxRecDepth 100000 in
theorem lists_of_trod {H : Type} {enc : TypeId × Value → H} {W : World} {v : Value} {x : DataW H × List MemPlace} {held : Bool} {fuel : Nat} (hf : DataW.trod enc Try.prog W 0 (fun _ => true) held fuel 22 [v] = some x) :
    ∃ (l : List (List UInt8)) (vals : List Value), Sl W 0 W.heap.size 1 v l.length vals ∧ Ents W (fun i => i < W.heap.size) vals l := by
  obtain ⟨A, n, c, rfl, h1, h2, h3, -⟩ := slice_of_trod Try.underlying22 (show Try.prog.cellsOf 34 = 1 by kernel_rfl) (by omega) hf
  have hel : ∀ i, i < n → ∃ q : Value × List UInt8, BytesAt W 0 W.heap.size q.1 q.2 ∧ ∃ b p, A = some ⟨b, p, none⟩ ∧ b < W.heap.size ∧ W.cell? ⟨b, p + i, none⟩ = some q.1 := by
    intro i hin
    obtain ⟨b, o, cs, y, f', ea, hbW, hcl, hat, ht⟩ := h3 i hin
    obtain ⟨u, rfl⟩ : ∃ u, cs = [u] := by
      match cs, hcl with
      | [u], _ => exact ⟨u, rfl⟩
    obtain ⟨L, hL, -⟩ := Og.bytes_of_trod ht
    have hc := hat 0 _ rfl
    rw [Nat.mul_one, Nat.add_zero] at hc
    exact ⟨(u, L), hL, b, o, ea, hbW, hc⟩
  obtain ⟨ps, hPn, hP⟩ := Og.list_of n _ hel
  subst hPn
  refine ⟨ps.map (·.2), ps.map (·.1), ?_, Ents.of fun p hp => ?_⟩
  · rw [List.length_map]
    refine ⟨by simp, A, c, rfl, h1, h2, fun h => ?_⟩
    obtain ⟨-, b, p, ea, hb, -⟩ := hP 0 h
    refine ⟨b, p, ea, Nat.zero_le _, hb, fun j hj => ?_⟩
    rw [Nat.mul_one] at hj
    obtain ⟨-, b', p', ea', -, hc⟩ := hP j hj
    rw [ea] at ea'
    cases ea'
    rw [hc]
    simp [hj]
  · obtain ⟨i, hi, rfl⟩ := List.getElem_of_mem hp
    exact ⟨0, W.heap.size, (hP i hi).1, Nat.le_refl _, fun _ _ h => h⟩
theorem open_lists {H : Type} {enc : TypeId × Value → H} {W : World} {v : Value} {d : DataW H} {p : List MemPlace} {held : Bool} (h : DataW.Trod enc Try.prog W 0 (fun _ => true) held 22 v d p) (hs : ∃ A n c, v = .slice A n c) :
    ∃ (l : List (List UInt8)) (vals : List Value), Sl W 0 W.heap.size 1 v l.length vals ∧ Ents W (fun i => i < W.heap.size) vals l := by
  obtain ⟨A, n, c, rfl⟩ := hs
  obtain ⟨fuel, hf⟩ := h
  exact lists_of_trod hf
end Wa
end Go.Proofs.Yteiniahikhiadaa

namespace Go.Proofs.Yteiniahikhiadaa
open Go.ChangeShapes Go.WideShapes Go.ChangeAt Go.RowKit
namespace Wa
set_option maxRecDepth 100000 in
theorem walRooms_lifted (os : Os) (started : os.Started) (H : Type) (enc : TypeId × Value → H) :
    ReturnsInHanded {} Try.checked os 3 .any (Rows.walRoomsSpec.pre6 enc Try.prog Try.f3 Rows.walRoomsRow.domain false) (Rows.walRoomsSpec.post enc Try.prog Try.f3 false true false false) := by
  refine returnsInHanded_of_change (C := Try.checked) own started (by kernel_rfl) Try.func3
    (ChangeSpec.witness6 (enc := enc) (C := Try.checked) false ⟨#[], #[.int .i64 0, .slice none 0 0], []⟩ 8 (by kernel_rfl) (by kernel_rfl) (by kernel_rfl) (by kernel_rfl)) ?_
  intro W base args ds gs before hval0 hW _ _
  have hval : ∀ (j : Nat) t v, Try.f3.params[j]? = some t → args[j]? = some v → Value.okWide Try.prog W .any base t v := hval0
  obtain ⟨p, q, hA0, hV, hps, hfz, hnd⟩ := id hW
  have hA : DataW.TrodAll enc Try.prog W 0 (fun _ => true) true Try.f3.params.toList args.toList ds p := hA0
  rw [Try.params3] at hA hval
  obtain ⟨v0, vs0, d0, ds0, p0, q0, hargs, rfl, rfl, h0, r0⟩ := trodAll_cons hA
  obtain ⟨v1, vs1, d1, ds1, p1, q1, rfl, rfl, rfl, h1, r1⟩ := trodAll_cons r0
  obtain ⟨rfl, rfl, rfl⟩ := trodAll_nil r1
  obtain rfl : args = #[v0, v1] := by cases args; simp_all
  obtain ⟨rfl, rfl⟩ := trodVars_none hV
  obtain ⟨k, rfl, rfl, rfl, wk⟩ := open_int Try.underlying3 (hval 0 3 v0 rfl rfl) h0
  obtain ⟨l, vals, hl, he⟩ := open_lists h1 (okWide_slice Try.underlying22 (hval 1 22 v1 rfl rfl))
  have bk : -9223372036854775808 ≤ k ∧ k ≤ 9223372036854775807 := by simpa [Lit.wf, IntKind.min, IntKind.max, IntKind.signed, IntKind.bits] using wk
  refine (rooms_law k l v1 vals W bk hl he).mono fun e W' ⟨he, hb⟩ => ?_
  subst he
  exact ⟨_, rfl, law_post laidOut (by kernel_rfl) rfl Try.underlying4 rfl hW rfl hb⟩

theorem walRooms_holds : Rows.WalRoomsSaid :=
  OpenClaim.holds_of_wide 3 Try.f3 rfl rfl rfl rfl rfl rfl rfl ⟨rfl, rfl, rfl, rfl, rfl⟩ rfl rfl rfl rfl rfl (by kernel_rfl) Try.func3 (by kernel_rfl)
    (of_decide_eq_true (by kernel_rfl)) (by unfold Func.isWrapper; first | (rw [if_pos (by decide +kernel)]; kernel_rfl) | (rw [if_neg (by decide +kernel)]; exact ⟨rfl, rfl⟩))
    (fun os started H enc _ => walRooms_lifted os started H enc)

end Wa
end Go.Proofs.Yteiniahikhiadaa
