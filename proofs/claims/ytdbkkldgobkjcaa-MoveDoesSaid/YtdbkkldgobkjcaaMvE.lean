/-
  moves: the iterator All.
-/
import Derived.Test.YtdbkkldgobkjcaaMvD
import Derived.Test.YtdbkkldgobkjcaaKeyW
import Derived.Test.YtdbkkldgobkjcaaRr
namespace Go.Proofs.Ytdbkkldgobkjcaa
open Go.RowKit Go.Maps
namespace Mv
open It
attribute [local go_sem] Oper.semAt_some

/-- from world to world: whatever is not in X, and no loop's record, is as it was -/
structure KpX (X : Nat → Prop) (A B : World) : Prop where
  os : B.os = A.os
  tape : B.tape = A.tape
  output : B.output = A.output
  size : A.heap.size ≤ B.heap.size
  same : ∀ b o, A.heap[b]? = some o → ¬ X b → (∀ r, o ≠ .loop r) → B.heap[b]? = some o
theorem KpX.refl (X : Nat → Prop) (A : World) : KpX X A A := ⟨rfl, rfl, rfl, Nat.le_refl _, fun _ _ h _ _ => h⟩
theorem KpX.trans {X : Nat → Prop} {A B C : World} (h : KpX X A B) (k : KpX X B C) : KpX X A C :=
  ⟨k.os.trans h.os, k.tape.trans h.tape, k.output.trans h.output, Nat.le_trans h.size k.size, fun b o h1 h2 h3 => k.same b o (h.same b o h1 h2 h3) h2 h3⟩
theorem KpX.loop {X : Nat → Prop} {W : World} {l : Nat} {r r' : Loop} (h : W.heap[l]? = some (.loop r)) : KpX X W (W.putObj l (.loop r')) := by
  refine ⟨rfl, rfl, rfl, by simp, fun b _ hb _ hn => ?_⟩
  by_cases e : b = l
  · subst e
    rw [h] at hb
    cases hb
    exact (hn r rfl).elim
  · exact (World.putObj_heap_other e).trans hb
theorem KpX.of_grown {X : Nat → Prop} {A B : World} {row : Option Nat} (h : A.grownBy B row) (hr : ∀ g, row = some g → X g) : KpX X A B :=
  ⟨h.os, h.tape, h.output, h.size, fun b _ hb hx _ => (h.block b (Array.getElem?_eq_some_iff.1 hb).1 (fun e => hx (hr b e.symm))).trans hb⟩
theorem KpX.ob {X : Nat → Prop} {A B : World} {b : Nat} {t : TypeId} {cs : Array Value} (h : KpX X A B) (ho : Ob A b t cs) (hx : ¬ X b) : Ob B b t cs := h.same b _ ho hx (fun r e => by cases e)
theorem KpX.cell {X : Nat → Prop} {A B : World} {b j : Nat} {v : Value} (h : KpX X A B) (hc : A.cell? ⟨b, j, none⟩ = some v) (hx : ¬ X b) : B.cell? ⟨b, j, none⟩ = some v := by
  have h2 := hc
  unfold World.cell? at h2
  split at h2
  · rename_i c t _ hb
    have := h.same b _ hb hx (fun r e => by cases e)
    exact (World.cell?_of_block (w := A) (w' := B) (a := ⟨b, j, none⟩) (this.trans hb.symm)).trans hc
  · cases h2
theorem KpX.sl {X : Nat → Prop} {A B : World} {lo hi size n : Nat} {v : Value} {xs : List Value} (h : KpX X A B) (hs : Sl A lo hi size v n xs) (hx : ∀ i, lo ≤ i → i < hi → ¬ X i) : Sl B lo hi size v n xs := by
  refine ⟨hs.len, ?_⟩
  obtain ⟨A', c, e, h1, h2, h3⟩ := hs.at_
  refine ⟨A', c, e, h1, h2, fun hn => ?_⟩
  obtain ⟨b, o, ea, hl, hb, hc⟩ := h3 hn
  refine ⟨b, o, ea, hl, hb, fun j hj => ?_⟩
  have hj2 : j < xs.length := by rw [hs.len]; exact hj
  have e2 : xs[j]? = some xs[j] := List.getElem?_eq_getElem hj2
  rw [e2]
  exact h.cell ((hc j hj).trans e2) (hx b hl hb)
theorem KpX.gmap {X : Nat → Prop} {A B : World} {mb : Nat} {m : List (Int × Value)} {t : TypeId} (h : KpX X A B) (hm : GMap intK A Try.prog t mb m) (hx : ¬ X mb) : GMap intK B Try.prog t mb m := by
  obtain ⟨es, clock, h1, F, h2, e⟩ := hm
  exact ⟨es, clock, h.same mb _ h1 hx (fun r e => by cases e), F, h2, e⟩
theorem WayAt.kpx {X F : Nat → Prop} {A B : World} {val : Value} {d : Way} (h : WayAt A F val d) (hk : KpX X A B) (hF : ∀ i, F i → ¬ X i) : WayAt B F val d := by
  obtain ⟨v, lo, hi, e, h1, h2, h3⟩ := h
  exact ⟨v, lo, hi, e, hk.sl h1 (fun i a b => hF i (h3 i a b)), Nat.le_trans h2 hk.size, h3⟩
theorem Rel.kpx {X F : Nat → Prop} {A B : World} (hk : KpX X A B) (hF : ∀ i, F i → ¬ X i) : ∀ {m : List (Int × Value)} {ds : List Way}, Rel A F m ds → Rel B F m ds
  | [], [], _ => trivial
  | _ :: _, _ :: _, h => ⟨h.1, h.2.1.kpx hk hF, Rel.kpx hk hF h.2.2⟩
  | [], _ :: _, h => h.elim
  | _ :: _, [], h => h.elim
theorem MvAt.kpx {X : Nat → Prop} {A B : World} {b mb : Nat} {ds : List Way} (h : MvAt A b mb X ds) (hk : KpX X A B) : MvAt B b mb X ds := by
  obtain ⟨m, hm, hR⟩ := h.map
  exact ⟨hk.ob h.ob h.nx.1, ⟨m, hk.gmap hm h.nx.2, hR.kpx hk (fun i hi => hi.2.2)⟩, h.ne, h.nx, fun i hi => Nat.lt_of_lt_of_le (h.xl i hi) hk.size, h.ok, h.len⟩
theorem MvAt.sorted {w : World} {b mb : Nat} {X : Nat → Prop} {ds : List Way} (h : MvAt w b mb X ds) : ds.Pairwise (fun c d => c.mv < d.mv) := by
  obtain ⟨m, hm, hR⟩ := h.map
  have hs := hm.sorted keyedI
  have h1 : (m.map (·.1)).Pairwise (· < ·) := by
    rw [List.pairwise_map]
    exact hs.imp (fun {p q} h => by simpa [intK] using h)
  rw [hR.keys, List.pairwise_map] at h1
  exact h1
theorem findW_sorted : ∀ {ds : List Way}, ds.Pairwise (fun c d => c.mv < d.mv) → ∀ (k : Nat) (h : k < ds.length), findW ds ds[k].mv = some ds[k]
  | [], _, k, h => by simp at h
  | d :: r, hp, 0, _ => by rw [findW_cons]; exact if_pos rfl
  | d :: r, hp, k + 1, h => by
    rw [List.pairwise_cons] at hp
    have hk : k < r.length := by simpa using h
    rw [findW_cons, List.getElem_cons_succ, if_neg (fun e => by have := hp.1 r[k] (List.getElem_mem hk); omega)]
    exact findW_sorted hp.2 k hk

/-- how a move that is handed over reads: its list lies in a block from lo on -/
def RdW (lo : Nat) (d : Way) (v : Value) (W : World) : Prop := ∃ sv, v = wayV d sv ∧ ItemsAt W lo W.heap.size sv d.l

theorem RdOf {W2 wr : World} {lo : Nat} {mv fr to_ : Int} {il : List It.Item} {came : Bool} {sv : Value} (h : W2.ownsRow wr.heap.size 36 2 sv il.length (itemCells il)) (o : Obj) (hl : lo ≤ wr.heap.size) :
    RdW lo ⟨mv, fr, to_, il, came⟩ (wayV ⟨mv, fr, to_, il, came⟩ sv) (W2.alloc o) :=
  ⟨sv, rfl, (ItemsAt.mono (ItemsAt.of_own h) ((Below.refl _ W2).alloc (Nat.le_refl _) o) (by simp)).wide hl (Nat.le_refl _)⟩

set_option maxRecDepth 100000 in
set_option maxHeartbeats 4000000 in
theorem all_reads (n : Nat) (hn : 1 ≤ n) (b mb Bs : Nat) (X : Nat → Prop) (ds : List Way) (w : World) (h : MvAt w b mb X ds) (hbs : Ob w Bs 23 #[.pointer (some ⟨b, 0, none⟩)]) (hxs : ¬ X Bs) :
    Rr.Reads Fence.wide n Try.prog 47 #[.pointer (some ⟨Bs, 0, none⟩)] (RdW w.heap.size) (KpX X) (fun xs => xs = ds) (fun pre => pre <+: ds) (fun pre d => pre ++ [d] <+: ds) w := by
  intro l J Jx W hW hJ hJx hY h0
  have hM := h.same hW
  have hB := hbs.same hW
  have cB : W.cell? ⟨Bs, 0, none⟩ = some (.pointer (some ⟨b, 0, none⟩)) := hB.cell (j := 0) rfl
  have gb : W.cell? ⟨b, 0, none⟩ = some (.map (some mb)) := hM.ob.cell (j := 0) rfl
  have cMd := Lib.hid (made_calls b mb W gb)
  obtain ⟨m, hm, hR⟩ := hM.map
  have hlen := hM.len
  have hml := hR.length
  have cK := Lib.hid (KsW.keys_calls (some mb) W)
  have cS := KsW.sorted_calls mb m W hm keyedI (by omega)
  rw [hR.keys] at cS
  have CS := Lib.hid cS
  have HM := Lib.hid hM
  have HB := Lib.hid hB
  have hws := hW.size
  clear cS hm hR hml
  refine callsIn_of_wp Try.func47 rfl trivial ?_ rfl
  simp only [Try.ntmps47, List.size_toArray, List.length_cons, List.length_nil, Nat.reduceAdd, Nat.reduceSub, Array.replicate_succ, Array.replicate_zero, List.push_toArray, List.append_toArray, List.nil_append, List.cons_append]
  gi_wp2_with (first
    | (refine ⟨trivial, ?_⟩; gi_at_call 39; refine (callsIn_wide.2 cMd.out).mono ?_; rintro e W' ⟨rfl, rfl⟩)
    | (refine ⟨trivial, ?_⟩; gi_at_call 49; refine (callsIn_wide.2 (callsIn_wide.1 cK.out)).mono ?_; rintro e W' ⟨rfl, rfl⟩)
    | (refine ⟨trivial, ?_⟩; gi_at_call 48; refine (callsIn_wide.2 (callsIn_wide.1 CS.out)).mono ?_; rintro e W1 ⟨kv, rfl, hkv, hb1⟩; obtain ⟨Ak, ck, rfl, -⟩ := (IntsAt.of_own hkv).form))
  have hal := (Below.refl W.heap.size W).alloc (Nat.le_refl _) (.cells #[.map (some mb)] 79)
  have hb01 : Below W.heap.size W W1 := hal.trans (hb1.mono hal.size)
  have hs01 := hb01.size
  have hJ1 : J [] W1 := hJ _ _ _ none h0 (only_of_below hb01 none) (fun r e => by cases e)
  have hM1 := HM.out.same hb01
  have hB1 := HB.out.same hb01
  have hK1 : IntsAt W1 W.heap.size W1.heap.size (.slice Ak ds.length ck) (ds.map (·.mv)) := by
    have := (IntsAt.of_own hkv).wide (lo' := W.heap.size) (by simp) (Nat.le_refl _)
    rwa [List.length_map] at this
  have HXL := Lib.hid HM.out.xl
  clear hkv hal hb1 cK CS cMd cB gb
  gi_loopw [4, 5, 6, 17] (fun _ _ _ i wr => ∃ k : Nat, k ≤ ds.length ∧ i = .int .i64 k ∧ J (ds.take k) wr ∧ MvAt wr b mb X ds ∧ Ob wr Bs 23 #[.pointer (some ⟨b, 0, none⟩)] ∧ IntsAt wr W.heap.size W1.heap.size (.slice Ak ds.length ck) (ds.map (·.mv)) ∧ W1.heap.size ≤ wr.heap.size) (fun _ _ _ i _ => ds.length - (intOf i).toNat)
  case atStart => exact ⟨0, by omega, rfl, hJ1, hM1, hB1, hK1, Nat.le_refl _⟩
  case round =>
    obtain ⟨k, hk, rfl, hJr, hMr, hBr, hKr, hsr⟩ := hrel
    clear hJ1 hM1 hB1 hK1
    by_cases hlt : k < ds.length
    · obtain ⟨kb, ko, hA, hk1, hk2, hck⟩ := hKr.cellAt (j := k) (by simpa using hlt)
      have hget : (ds.map (·.mv)).getD k 0 = ds[k].mv := by simp [hlt]
      rw [hget] at hck
      have hd : decide (k < ds.length) = true := by simpa using hlt
      have hfind := findW_sorted hMr.sorted k hlt
      have hok := hMr.ok ds[k] (List.getElem_mem hlt)
      have cB : wr.cell? ⟨Bs, 0, none⟩ = some (.pointer (some ⟨b, 0, none⟩)) := hBr.cell (j := 0) rfl
      have cMv := move_calls ds[k].mv b mb X ds wr hMr (by have := hok.mv; omega) (by have := hok.mv; omega)
      rw [hfind] at cMv
      have hlen3 : ds.take k ++ [ds[k]] <+: ds := by
        rw [← List.take_succ_eq_append_getElem hlt]
        exact List.take_prefix _ _
      have HTk := Lib.hid (show ds.take (k + 1) = ds.take k ++ [ds[k]] from List.take_succ_eq_append_getElem hlt)
      have HLk := Lib.hid (show (ds.take k).length = k by rw [List.length_take]; omega)
      have CMv := Lib.hid cMv
      have HMr := Lib.hid hMr
      have HBr := Lib.hid hBr
      have HKr := Lib.hid hKr
      have HJr := Lib.hid hJr
      clear cMv hfind hMr hBr hKr hJr hget hok
      generalize ds[k] = d at *
      obtain ⟨mv, fr, to_, il, came⟩ := d
      subst hA
      dsimp only at hck CMv
      have hlw : w.heap.size ≤ wr.heap.size := by omega
      have HY := Lib.hid (fun W1 v (h1 : J (ds.take k) W1) h3 => hY (ds.take k) ⟨mv, fr, to_, il, came⟩ v W1 h1 hlen3 h3)
      gi_wp2_with (refine ⟨trivial, ?_⟩; gi_at_call 19; refine (callsIn_wide.2 CMv.out).mono ?_; rintro e W2 ⟨⟨sv, rfl, hsv⟩, hb2⟩; obtain ⟨As, cs, rfl, -⟩ := (ItemsAt.of_own hsv).form; simp only [wayV, Option.getD_some, Option.isSome_some])
      dsimp only [Option.getD_some] at hsv
      have hb3 := hb2.alloc hb2.size (.cells #[.int .i64 mv, .int .i64 fr, .int .i64 to_, .slice As il.length cs, .bool came] 42)
      have hJ3 := hJ _ _ _ none HJr.out (only_of_below hb3 none) (fun r e => by cases e)
      have hR3 := RdOf (mv := mv) (fr := fr) (to_ := to_) (came := came) hsv (.cells #[.int .i64 mv, .int .i64 fr, .int .i64 to_, .slice As il.length cs, .bool came] 42) hlw
      obtain ⟨fn, tmps, assign, body, hy, hR⟩ := HY.out _ _ hJ3 hR3
      dsimp only [wayV] at hy
      rw [show Sem.run _ _ _ = _ from hy]
      gi_wp2
      refine hR.mono ?_
      have hM3 := HMr.out.same hb3
      have hB3 := HBr.out.same hb3
      have hK3 := Sl.below HKr.out (hb3.mono hsr)
      have hs3 := hb3.size
      clear hJ3 hR3 hsv hb2
      rintro e W4 (⟨rfl, hJ4, hk4⟩ | ⟨rfl, hJx4⟩)
      · rw [← HTk.out] at hJ4
        gi_wp2
        go_roundw
        case rel => exact ⟨k + 1, by omega, by go_num, hJ4, hM3.kpx hk4, hk4.ob hB3 hxs, hk4.sl hK3 (fun i h1 h2 hx => by have := HXL.out i hx; omega), by have := hk4.size; omega⟩
        case measure => simp [intOf]; omega
      · rw [← HTk.out] at hJx4
        gi_wp2
        refine bodyPost_ret (results_none rfl _ _ _) rfl ?_
        exact ⟨⟨_, rfl⟩, .inr ⟨_, List.take_prefix _ _, hJx4⟩⟩
    · obtain rfl : k = ds.length := by omega
      have hd : decide (ds.length < ds.length) = false := by simp
      rw [List.take_length] at hJr
      gi_wp2
      go_end0
      exact ⟨⟨_, rfl⟩, .inl ⟨_, rfl, hJr⟩⟩
end Mv
end Go.Proofs.Ytdbkkldgobkjcaa
