/-
  goods: Totals.
-/
import Derived.Test.YtlhpdalfnjhokaaSkL
import Derived.Test.YtlhpdalfnjhokaaPi
import Derived.Test.YtlhpdalfnjhokaaToAt
namespace Go.Proofs.Ytlhpdalfnjhokaa
open Go.RowKit Go.Maps
namespace Sk
open It Al Kp
attribute [local go_sem] Oper.semAt_some
theorem ggoods_calls (v : Value) (hv : v.oneCell' = true) (w : World) :
    Calls Try.prog 15 #[v] w fun e w' => e = .returned (.func (.func 25) #[] #[.pointer (some ⟨w.heap.size, 0, none⟩)]) ∧ w' = w.alloc (.cells #[v] 33) := by
  have hmf : ∀ (fn : Fn) (first cap : Array Value) (w : World), (Instr.makeFunc fn first cap).run Try.prog w = .ok (.func fn first cap) w := fun _ _ _ _ => rfl
  go_enter Try.func15, Try.ntmps15
  go_wp2
  go_ret
  exact ⟨rfl, rfl⟩
/-- a good's total, as cells -/
def totL (ss : List Stk) (g : Key) : List Value := (totC ⟨g.toArray⟩ (totR ss g) (wayT (totR ss g))).toList
theorem totL_len (ss : List Stk) (g : Key) : (totL ss g).length = 13 := rfl
theorem totL_one (ss : List Stk) (ks : List Key) : ∀ y ∈ ks.flatMap (totL ss), y.oneCell' = true := by
  intro y hy
  obtain ⟨k, -, hk⟩ := List.mem_flatMap.1 hy
  unfold totL totC at hk
  simp only [List.mem_cons, List.not_mem_nil, or_false] at hk
  rcases hk with rfl | rfl | rfl | rfl | rfl | rfl | rfl | rfl | rfl | rfl | rfl | rfl | rfl <;> rfl
theorem flat_len (ss : List Stk) (ks : List Key) : (ks.flatMap (totL ss)).length = ks.length * 13 := by
  induction ks with
  | nil => rfl
  | cons k r ih => rw [List.flatMap_cons, List.length_append, totL_len, ih, List.length_cons]; omega
theorem flat_get (ss : List Stk) : ∀ (ks : List Key) (j : Nat) (hj : j < ks.length) (i : Nat), i < 13 → (ks.flatMap (totL ss))[j * 13 + i]? = (totL ss ks[j])[i]?
  | [], j, hj, _, _ => absurd hj (by simp)
  | k :: r, 0, _, i, hi => by
    rw [List.flatMap_cons, List.getElem?_append_left (by rw [totL_len]; omega)]
    simp
  | k :: r, j + 1, hj, i, hi => by
    rw [List.flatMap_cons, List.getElem?_append_right (by rw [totL_len]; omega), totL_len]
    rw [show (j + 1) * 13 + i - 13 = j * 13 + i by omega, List.getElem_cons_succ]
    exact flat_get ss r j (by simpa using hj) i hi
theorem KpO.append {X : Nat → Prop} {ob : Nat} {A B : World} {t : TypeId} {u u' : Value} (hA : Ob A ob t #[u]) (hg : A.grownBy B u.ownBlock) (hat : u'.ownBlock = u.ownBlock ∨ u'.ownBlock = some A.heap.size) (hne : u.ownBlock ≠ some ob) (hX : X ob) : KpO X ob A (B.setCell ⟨ob, 0, none⟩ u') := by
  have hB := hA.kept hg (fun e => hne e.symm)
  have h2 := grownBy_set B ob 0 u'
  have hO : own (B.setCell ⟨ob, 0, none⟩ u') ob = u'.ownBlock := own_of (t := t) (hB.set 0 u')
  refine ⟨Nat.le_trans hg.size h2.size, fun b o hb hx ho _ => ?_, fun g hgo => ?_⟩
  · rw [own_of hA] at ho
    have hb1 := (hg.block b (Array.getElem?_eq_some_iff.1 hb).1 (fun e => ho e.symm)).trans hb
    exact (h2.block b (Array.getElem?_eq_some_iff.1 hb1).1 (fun e => hx (by have := Option.some.inj e; subst this; exact hX))).trans hb1
  · rw [hO] at hgo
    rw [own_of hA]
    rcases hat with h | h
    · exact .inl (h ▸ hgo)
    · rw [h] at hgo
      exact .inr (Nat.le_of_eq (Option.some.inj hgo))
theorem row_far {w w' : World} {lo b : Nat} {e : TypeId} {size n : Nat} {v : Value} {xs : List Value} (h : w.ownsRow lo e size v n xs) (hg : w.grownBy w' (some b)) (hb : b < lo) : w'.ownsRow lo e size v n xs :=
  h.kept hg (by
    cases hv : v.ownBlock with
    | none => simp
    | some g => have := (h.lt g hv).1; exact .inr (by simp; omega))
theorem row_mono {w : World} {lo lo' : Nat} {e : TypeId} {size n : Nat} {v : Value} {xs : List Value} (h : w.ownsRow lo e size v n xs) (hb : lo' ≤ lo) : w.ownsRow lo' e size v n xs :=
  ⟨h.1, h.2.imp id fun ⟨g, cap, cur, h1, h2, h3⟩ => ⟨g, cap, cur, h1, Nat.le_trans hb h2, h3⟩⟩
theorem rowb {A B : World} {lo : Nat} {e : TypeId} {size n : Nat} {v : Value} {xs : List Value} (h : A.ownsRow lo e size v n xs) (hb : Below A.heap.size A B) : B.ownsRow lo e size v n xs := by
  refine ⟨h.1, h.2.elim Or.inl fun hx => .inr ?_⟩
  revert hx
  rintro ⟨g, cap, cur, rfl, hbg, hg, hnc⟩
  exact ⟨g, cap, cur, rfl, hbg, (hb.block g (Array.getElem?_eq_some_iff.1 hg).1).trans hg, hnc⟩
theorem keeps_row {A B : World} {lo n c : Nat} {e : TypeId} {size : Nat} {u : Value} {xs : List Value} (h : A.ownsRow lo e size u n xs) (hg : A.grownBy B u.ownBlock) : KeepsFrom c A B := by
  refine ⟨hg.size, fun k o _ hk ho => (hg.block k (Array.getElem?_eq_some_iff.1 hk).1 (fun e2 => ?_)).trans hk⟩
  rcases h.2 with ⟨rfl, _⟩ | ⟨g', cap, cur, rfl, _, hg', _⟩
  · simp [Value.ownBlock] at e2
  · simp [Value.ownBlock] at e2
    subst e2
    rw [hg'] at hk
    cases hk
    cases ho
theorem allKeys_mem : ∀ (ss : List Stk) (k : Key), k ∈ allKeys ss → ∃ s ∈ ss, k ∈ keysS s := by
  have hput : ∀ (ks : List Key) (m : List (Key × Unit)) (k : Key), k ∈ (putKeys m ks).map (·.1) → k ∈ ks ∨ k ∈ m.map (·.1) := by
    intro ks
    induction ks with
    | nil => exact fun m k h => .inr h
    | cons x r ih =>
      intro m k h
      rcases ih (aPut strK m x ()) k h with h | h
      · exact .inl (List.mem_cons_of_mem _ h)
      · obtain ⟨q, hq, rfl⟩ := List.mem_map.1 h
        rcases aPut_mem.1 hq with rfl | ⟨h1, -⟩
        · exact .inl (by simp)
        · exact .inr (List.mem_map.2 ⟨q, h1, rfl⟩)
  have hall : ∀ (ss : List Stk) (m : List (Key × Unit)) (k : Key), k ∈ (ss.foldl (fun m s => putKeys m (keysS s)) m).map (·.1) → (∃ s ∈ ss, k ∈ keysS s) ∨ k ∈ m.map (·.1) := by
    intro ss
    induction ss with
    | nil => exact fun m k h => .inr h
    | cons s r ih =>
      intro m k h
      rcases ih _ k h with ⟨s', h1, h2⟩ | h
      · exact .inl ⟨s', List.mem_cons_of_mem _ h1, h2⟩
      · rcases hput _ _ k h with h | h
        · exact .inl ⟨s, by simp, h⟩
        · exact .inr h
  intro ss k h
  rcases hall ss [] k h with h | h
  · exact h
  · cases h
theorem StsAt.keys {w : World} {base : Nat} {v : Value} {ss : List Stk} (h : StsAt w base v ss) : (∀ k ∈ allKeys ss, k.length ≤ maxLen) ∧ (allKeys ss).length ≤ 64 * ss.length := by
  obtain ⟨ps, -, -, h3⟩ := h.at_
  have hs : ∀ s ∈ ss, (∀ k ∈ keysS s, k.length ≤ maxLen) ∧ (keysS s).length ≤ 64 := fun s hs => by
    obtain ⟨i, hi, rfl⟩ := List.getElem_of_mem hs
    obtain ⟨p, -, hp⟩ := h3 i hi
    exact ⟨hp.keys.1, hp.keys.2.1⟩
  refine ⟨fun k hk => ?_, ?_⟩
  · obtain ⟨s, h1, h2⟩ := allKeys_mem ss k hk
    exact (hs s h1).1 k h2
  · have : ∀ (ss : List Stk) (m : List (Key × Unit)), (∀ s ∈ ss, (keysS s).length ≤ 64) → (ss.foldl (fun m s => putKeys m (keysS s)) m).length ≤ m.length + 64 * ss.length := by
      intro ss
      induction ss with
      | nil => intro m _; simp
      | cons s r ih =>
        intro m hk
        have h1 := ih (putKeys m (keysS s)) (fun s' hs' => hk s' (List.mem_cons_of_mem _ hs'))
        have h2 := putKeys_len (keysS s) m
        have h3 := hk s (by simp)
        simp only [List.foldl_cons, List.length_cons]
        omega
    have := this ss [] (fun s h => (hs s h).2)
    unfold allKeys allMap
    rw [List.length_map]
    simpa using this
theorem total_info : (Try.prog.info? 27).map (fun i => (i.zero, i.size, i.bytes)) = some (some (.agg #[.string ⟨#[]⟩, .int .i64 0, .int .i64 0, .int .i64 0, .int .i64 0, .int .i64 0, .int .i64 0, .int .i64 0, .int .i64 0, .int .i64 0, .int .i64 0, .int .i64 0, .int .i64 0]), 13, 112) := by kernel_rfl
set_option maxRecDepth 100000 in
set_option maxHeartbeats 8000000 in
theorem totals_calls (ss : List Stk) (v : Value) (w : World) (base : Nat) (h : StsAt w base v ss) (hl : ss.length ≤ 1000) :
    Calls Try.prog 17 #[v] w fun e w' => (∃ u, e = .returned u ∧ w'.ownsRow w.heap.size 27 13 u (allKeys ss).length ((allKeys ss).flatMap (totL ss))) ∧ Below w.heap.size w w' := by
  obtain ⟨ps, hpl, hsl, hps⟩ := h.at_
  obtain ⟨A, c, rfl, hc1, hc2, -⟩ := hsl.at_
  clear hsl hps hpl
  refine (callsIn_wide (n := 6)).1 ?_
  refine callsIn_of_wp_marks Try.func17 rfl trivial ?_ rfl
  simp only [Try.ntmps17, List.size_toArray, List.length_cons, List.length_nil, Nat.reduceAdd, Nat.reduceSub, Array.replicate_succ, Array.replicate_zero, List.push_toArray, List.append_toArray, List.nil_append, List.cons_append]
  gi_wp2_with (refine ⟨trivial, ?_⟩; gi_at_call 15; refine (callsIn_wide.2 (ggoods_calls _ rfl _)).mono ?_; rintro e w' ⟨rfl, rfl⟩)
  --RANGE
  have hB3 : Below w.heap.size w (((w.alloc (.cells #[.slice A ss.length c] 33)).alloc (.cells #[.slice none 0 0] 38)).alloc (.cells #[.slice A ss.length c] 33)) := (((Below.refl _ w).alloc (Nat.le_refl _) _).alloc (by simp) _).alloc (by simp; omega) _
  have b0 := ((Ob.new w 33 #[.slice A ss.length c]).alloc (.cells #[.slice none 0 0] 38)).alloc (.cells #[.slice A ss.length c] 33)
  have b1 := (Ob.new (w.alloc (.cells #[.slice A ss.length c] 33)) 38 #[.slice none 0 0]).alloc (.cells #[.slice A ss.length c] 33)
  have b2 := Ob.new ((w.alloc (.cells #[.slice A ss.length c] 33)).alloc (.cells #[.slice none 0 0] 38)) 33 #[.slice A ss.length c]
  simp only [World.size_alloc] at b1 b2
  have hs3 : (((w.alloc (.cells #[.slice A ss.length c] 33)).alloc (.cells #[.slice none 0 0] 38)).alloc (.cells #[.slice A ss.length c] 33)).heap.size = w.heap.size + 3 := by simp
  generalize (((w.alloc (.cells #[.slice A ss.length c] 33)).alloc (.cells #[.slice none 0 0] 38)).alloc (.cells #[.slice A ss.length c] 33)) = w3 at *
  have hM := h.same hB3
  obtain ⟨hkeys, hkn⟩ := h.keys
  have HH := Lib.hid h
  have HB3 := Lib.hid hB3
  have HKS := Lib.hid hkeys
  have HKN := Lib.hid hkn
  clear h hB3 hkeys
  refine Ro.range_reads (n := 6) rfl (by omega) (gf := 25) rfl trivial (enters_of Try.func25 (by kernel_rfl) rfl)
    (greads 5 (by omega) (w.heap.size + 1 + 1) (w.heap.size + 1) (fun i => i = w.heap.size + 1) hM (by omega) b2 (fun i hi => by omega) (by omega) (fun g hg => by rw [own_of b1] at hg; cases hg)) (Below.refl _ _) (fun h k => h.trans k) (fun W l r r' _ h => KpO.loop h) rfl
    (fun pre V => ∃ u, Ob V w.heap.size 33 #[.slice A ss.length c] ∧ Ob V (w.heap.size + 1) 38 #[u] ∧ V.ownsRow (w.heap.size + 3) 27 13 u pre.length (pre.flatMap (totL ss)) ∧ Below w.heap.size w V ∧ w.heap.size + 3 ≤ V.heap.size)
    (fun c pre V => False)
    (fun s A B row hs hg hr => by
      obtain ⟨u, h1, h2, h3, h4, h5⟩ := hs
      exact ⟨u, ob_keep h1 hg (fun r e => (hr r e).2), ob_keep h2 hg (fun r e => (hr r e).2), row_keep h3 hg (fun r e => (hr r e).2), h4.grown hg (by omega) (fun k e => by have := (hr k e).1; omega), by have := hg.size; omega⟩)
    (fun c s A B row hs hg hr => hs.elim)
    ⟨.slice none 0 0, b0, b1, World.ownsRow_nil _ _ _ _, HB3.out, by omega⟩ ?round ?done ?stop
  case stop => exact fun D c pre X _ _ h _ => h.elim
  case round =>
    rintro l pre dd v V hl ⟨u, i0, i1, i2, i3, i4⟩ hpre rfl
    have hdm : dd ∈ allKeys ss := by
      obtain ⟨r, hr⟩ := hpre
      rw [← hr]
      simp
    have hdl := HKS.out dd hdm
    have hpl : pre.length < 64 * ss.length := by
      obtain ⟨r, hr⟩ := hpre
      have := congrArg List.length hr
      simp only [List.length_append, List.length_cons, List.length_nil] at this
      have := HKN.out
      omega
    have HFL := Lib.hid (show (pre ++ [dd]).flatMap (totL ss) = pre.flatMap (totL ss) ++ totL ss dd by rw [List.flatMap_append]; simp)
    have HPL := Lib.hid (show (pre ++ [dd]).length = pre.length + 1 by simp)
    clear hpre hdm
    gi_wp2
    refine ⟨keeps_below _ (Below.refl _ V), KpO.refl _ _ _, fun V2 hg2 ho2 => ?_⟩
    replace i0 := ob_keep i0 hg2 (fun r e => by cases e; exact ho2)
    replace i1 := ob_keep i1 hg2 (fun r e => by cases e; exact ho2)
    replace i2 := row_keep i2 hg2 (fun r e => by cases e; exact ho2)
    replace i3 := i3.grown hg2 (by omega) (fun k e => by have := Option.some.inj e; omega)
    replace i4 : w.heap.size + 3 ≤ V2.heap.size := by have := hg2.size; omega
    clear hg2 ho2
    have hSt := HH.out.same i3.drew
    have cT := total_calls ss ⟨dd.toArray⟩ (by show dd.toArray.size ≤ maxLen; simpa using hdl) (.slice A ss.length c) V2.drew base hSt
    have HTL := Lib.hid (show totL ss dd = (totC ⟨dd.toArray⟩ (totR ss dd) (wayT (totR ss dd))).toList from rfl)
    have hTV : totV ⟨dd.toArray⟩ ss = .agg (totC ⟨dd.toArray⟩ (totR ss dd) (wayT (totR ss dd))) := by unfold totV; simp
    rw [hTV] at cT
    have hro := totR_ok ss dd
    generalize totR ss dd = rr at *
    obtain ⟨a0, a1, a2, a3, a4, a5, a6, a7, a8, a9, a10, rfl⟩ := row_eleven hro
    generalize wayT [a0, a1, a2, a3, a4, a5, a6, a7, a8, a9, a10] = wy at *
    have CT := Lib.hid (show Calls Try.prog 16 #[.slice A ss.length c, encStr dd] V2.drew fun e w' => e = .returned (.agg #[.string ⟨dd.toArray⟩, .int .i64 a0, .int .i64 a1, .int .i64 a2, .int .i64 a3, .int .i64 a4, .int .i64 a5, .int .i64 a6, .int .i64 a7, .int .i64 a8, .int .i64 a9, .int .i64 a10, .int .i64 wy]) ∧ Below V2.drew.heap.size V2.drew w' from cT)
    have HTL2 := Lib.hid (show totL ss dd = [.string ⟨dd.toArray⟩, .int .i64 a0, .int .i64 a1, .int .i64 a2, .int .i64 a3, .int .i64 a4, .int .i64 a5, .int .i64 a6, .int .i64 a7, .int .i64 a8, .int .i64 a9, .int .i64 a10, .int .i64 wy] from HTL.out)
    clear cT hTV hro hSt hdl
    gi_wp2
    refine Pi.regionIn [(0, false), (1, false), (2, false), (3, true), (4, true), (5, true), (6, true)] (fun V => Ob V w.heap.size 33 #[.slice A ss.length c] ∧ Ob V (w.heap.size + 1) 38 #[u]) hmx (by kernel_rfl) (by kernel_rfl) (by kernel_rfl) (by kernel_rfl) ⟨i0, i1⟩ rfl ?_
    simp only [Pu.named, List.filterMap_cons, List.filterMap_nil, List.getElem?_toArray, List.getElem?_cons_succ, List.getElem?_cons_zero, Option.map_some]
    iterate 3 (first
      | (refine Pu.WalkM.off (by rfl) ?_; simp only [Act.put, List.setIfInBounds_toArray, List.set_cons_succ, List.set_cons_zero])
      | (apply Pu.WalkM.on (by rfl)
         · intro V hV
           obtain ⟨k0, k1⟩ := hV
           have z0 := k0.cell (j := 0) (v := .slice A ss.length c) rfl
           have z1 := k1.cell (j := 0) (v := u) rfl
           go_wp2_with fail
           refine ⟨rfl, ?_, rfl⟩
           try simp only [Act.put, List.setIfInBounds_toArray, List.set_cons_succ, List.set_cons_zero]
           rfl
         simp only [Act.put, List.setIfInBounds_toArray, List.set_cons_succ, List.set_cons_zero]))
    have hD0 : Below V2.drew.heap.size V2 V2.drew := (Below.refl _ V2).drew
    have j0 : Ob V2.drew w.heap.size 33 #[.slice A ss.length c] := i0
    have j1 : Ob V2.drew (w.heap.size + 1) 38 #[u] := i1
    have j2 : V2.drew.ownsRow (w.heap.size + 3) 27 13 u pre.length (pre.flatMap (totL ss)) := i2
    have hds : V2.drew.heap.size = V2.heap.size := rfl
    have HV2 := Lib.hid i3
    clear i0 i1 i2 i3
    generalize hWD : V2.drew = WD at *
    clear hWD
    refine Pu.WalkM.make (by rfl) ?_
    intro V hV
    rw [hV]
    clear hV V
    go_wp2_with (go_at_call 16; refine CT.out.mono ?_; rintro e W3 ⟨rfl, hb3⟩)
    have l0 := j0.same hb3
    have l1 := j1.same hb3
    have l2 := rowb j2 hb3
    have HB3' := Lib.hid hb3
    have hs3' := hb3.size
    clear hb3 j0 j1 j2
    refine ⟨rfl, .agg #[.string ⟨dd.toArray⟩, .int .i64 a0, .int .i64 a1, .int .i64 a2, .int .i64 a3, .int .i64 a4, .int .i64 a5, .int .i64 a6, .int .i64 a7, .int .i64 a8, .int .i64 a9, .int .i64 a10, .int .i64 wy], (fun V => Ob V w.heap.size 33 #[.slice A ss.length c] ∧ Ob V (w.heap.size + 1) 38 #[u]), (fun V => V = W3), ?_, rfl, (fun V h => by rw [h]; exact ⟨l0, l1⟩), (.inr (fun _ h => h)), ?_⟩
    · try simp only [Act.put, List.setIfInBounds_toArray, List.set_cons_succ, List.set_cons_zero]
    try simp only [Act.put, List.setIfInBounds_toArray, List.set_cons_succ, List.set_cons_zero]
    refine Pu.WalkM.make (by rfl) ?_
    intro V hV
    rw [hV]
    clear hV V
    go_wp2_with fail
    have hal4 := (Below.refl W3.heap.size W3).alloc (Nat.le_refl _) (.cells #[.string ⟨dd.toArray⟩, .int .i64 a0, .int .i64 a1, .int .i64 a2, .int .i64 a3, .int .i64 a4, .int .i64 a5, .int .i64 a6, .int .i64 a7, .int .i64 a8, .int .i64 a9, .int .i64 a10, .int .i64 wy] 27)
    have m0 := l0.alloc (.cells #[.string ⟨dd.toArray⟩, .int .i64 a0, .int .i64 a1, .int .i64 a2, .int .i64 a3, .int .i64 a4, .int .i64 a5, .int .i64 a6, .int .i64 a7, .int .i64 a8, .int .i64 a9, .int .i64 a10, .int .i64 wy] 27)
    have m1 := l1.alloc (.cells #[.string ⟨dd.toArray⟩, .int .i64 a0, .int .i64 a1, .int .i64 a2, .int .i64 a3, .int .i64 a4, .int .i64 a5, .int .i64 a6, .int .i64 a7, .int .i64 a8, .int .i64 a9, .int .i64 a10, .int .i64 wy] 27)
    have m2 := l2.alloc (.cells #[.string ⟨dd.toArray⟩, .int .i64 a0, .int .i64 a1, .int .i64 a2, .int .i64 a3, .int .i64 a4, .int .i64 a5, .int .i64 a6, .int .i64 a7, .int .i64 a8, .int .i64 a9, .int .i64 a10, .int .i64 wy] 27)
    have hsl := Sl.new W3 #[.string ⟨dd.toArray⟩, .int .i64 a0, .int .i64 a1, .int .i64 a2, .int .i64 a3, .int .i64 a4, .int .i64 a5, .int .i64 a6, .int .i64 a7, .int .i64 a8, .int .i64 a9, .int .i64 a10, .int .i64 wy] 27 (n := 1) (size := 13) rfl (by unfold maxLen; omega)
    have hs4 : (W3.alloc (.cells #[.string ⟨dd.toArray⟩, .int .i64 a0, .int .i64 a1, .int .i64 a2, .int .i64 a3, .int .i64 a4, .int .i64 a5, .int .i64 a6, .int .i64 a7, .int .i64 a8, .int .i64 a9, .int .i64 a10, .int .i64 wy] 27)).heap.size = W3.heap.size + 1 := by simp
    have HB4' := Lib.hid (HB3'.out.trans (hal4.mono hs3'))
    clear l0 l1 l2 hal4
    generalize W3.alloc (.cells #[.string ⟨dd.toArray⟩, .int .i64 a0, .int .i64 a1, .int .i64 a2, .int .i64 a3, .int .i64 a4, .int .i64 a5, .int .i64 a6, .int .i64 a7, .int .i64 a8, .int .i64 a9, .int .i64 a10, .int .i64 wy] 27) = W4 at *
    refine ⟨rfl, .slice (some ⟨W3.heap.size, 0, none⟩) 1 1, (fun V => Ob V w.heap.size 33 #[.slice A ss.length c] ∧ Ob V (w.heap.size + 1) 38 #[u]), (fun V => V = W4), ?_, rfl, (fun V h => by rw [h]; exact ⟨m0, m1⟩), (.inr (fun _ h => h)), ?_⟩
    · try simp only [Act.put, List.setIfInBounds_toArray, List.set_cons_succ, List.set_cons_zero]
    try simp only [Act.put, List.setIfInBounds_toArray, List.set_cons_succ, List.set_cons_zero]
    refine Pu.WalkM.make (by rfl) ?_
    intro V hV
    rw [hV]
    clear hV V
    obtain ⟨ti, hi0, hz0⟩ := Option.map_eq_some_iff.1 total_info
    simp only [Prod.mk.injEq] at hz0
    obtain ⟨hz0, hz1, hz2⟩ := hz0
    go_wp2_with (at_builtin; refine wpList_append_sl _ rfl (.tmp 8) (.tmp 12) _ rfl (w.heap.size + 3) 27 ti _ 13 112 Try.underlying38 hi0 hz0 hz1 hz2 rfl (by omega) u pre.length _ rfl m2 W3.heap.size (W3.heap.size + 1) (.slice (some ⟨W3.heap.size, 0, none⟩) 1 1) 1 [.string ⟨dd.toArray⟩, .int .i64 a0, .int .i64 a1, .int .i64 a2, .int .i64 a3, .int .i64 a4, .int .i64 a5, .int .i64 a6, .int .i64 a7, .int .i64 a8, .int .i64 a9, .int .i64 a10, .int .i64 wy] rfl hsl (by simp [Value.oneCell']) (by unfold maxLen; omega) (by omega) (by omega) ?_; intro u5 W5 hown5 hg5 hat5)
    clear hz0 hz1 hz2 hi0 hsl
    have hub : u.ownBlock ≠ some w.heap.size ∧ u.ownBlock ≠ some (w.heap.size + 1) := ⟨fun e => by have := m2.lt _ e; omega, fun e => by have := m2.lt _ e; omega⟩
    have n0 := m0.kept hg5 (fun e => hub.1 e.symm)
    have n1 := m1.kept hg5 (fun e => hub.2 e.symm)
    have HKO := Lib.hid (KpO.append (X := fun i => i = w.heap.size + 1) m1 hg5 hat5 hub.2 rfl)
    have HKF := Lib.hid (keeps_row (c := w3.heap.size) m2 hg5)
    have HBL := Lib.hid (fun (h : Below w.heap.size w W4) => h.grown hg5 (by omega) (fun k e => by have := m2.lt k e; omega))
    have hs5 := hg5.size
    clear m0 m1 hat5
    obtain ⟨A5, c5, rfl, -⟩ := (Sl.of_own hown5).at_
    refine ⟨rfl, .slice A5 (pre.length + 1) c5, (fun V => Ob V w.heap.size 33 #[.slice A ss.length c] ∧ Ob V (w.heap.size + 1) 38 #[u]), (fun V => V = W5), ?_, rfl, (fun V h => by rw [h]; exact ⟨n0, n1⟩), (.inr (fun _ h => h)), ?_⟩
    · try simp only [Act.put, List.setIfInBounds_toArray, List.set_cons_succ, List.set_cons_zero]
    try simp only [Act.put, List.setIfInBounds_toArray, List.set_cons_succ, List.set_cons_zero]
    refine Pu.WalkM.make (by rfl) ?_
    intro X hX
    rw [hX]
    clear hX X
    have z1 := n1.cell (j := 0) (v := u) rfl
    have f1 := n1.frozen 0
    go_wp2_with fail
    refine ⟨rfl, undef, (fun _ => True), (fun V => V = W5.setCell ⟨w.heap.size + 1, 0, none⟩ (.slice A5 (pre.length + 1) c5)), rfl, rfl, (fun _ _ => trivial), (.inl (by kernel_rfl)), Pu.WalkM.nil ?_⟩
    intro V hV
    rw [hV]
    clear hV V
    have q0 := n0.other (b' := w.heap.size + 1) (by omega) 0 (.slice A5 (pre.length + 1) c5)
    have q1 := n1.set 0 (.slice A5 (pre.length + 1) c5)
    refine Pi.OnlyN.out ?_
    have hb24 : Below V2.heap.size V2 W4 := (hD0.trans HB4'.out).mono (by omega)
    have hK1 := ((keeps_below w3.heap.size hb24).trans HKF.out)
    have hK2 := keeps_set hK1 ⟨w.heap.size + 1, 0, none⟩ (.slice A5 (pre.length + 1) c5)
    have hKO := (KpO.below (X := fun i => i = w.heap.size + 1) hb24 (ob := w.heap.size + 1) (by omega)).trans HKO.out
    have hBw := HBL.out (HV2.out.trans (hb24.mono (by have := HV2.out.size; omega)))
    have hB6 := hBw.grown (grownBy_set W5 (w.heap.size + 1) 0 (.slice A5 (pre.length + 1) c5)) (by omega) (fun k e => by have := Option.some.inj e; omega)
    have hR6 := row_far hown5 (grownBy_set W5 (w.heap.size + 1) 0 (.slice A5 (pre.length + 1) c5)) (by omega)
    have hsz : w.heap.size + 3 ≤ (W5.setCell ⟨w.heap.size + 1, 0, none⟩ (.slice A5 (pre.length + 1) c5)).heap.size := by have := (grownBy_set W5 (w.heap.size + 1) 0 (.slice A5 (pre.length + 1) c5)).size; omega
    rw [← HTL2.out, ← HFL.out] at hR6
    exact ⟨hK2, hKO, .slice A5 (pre.length + 1) c5, q0, q1, by rw [HPL.out]; exact hR6, hB6, hsz⟩
  case done =>
    rintro D xs V hl rfl ⟨u, i0, i1, i2, i3, i4⟩ hK
    have z1 := i1.cell (j := 0) (v := u) rfl
    gi_wp2
    refine ⟨by simp, .inl ⟨_, _, rfl, run_takeDeferred hK, ?_⟩⟩
    have hBF := below_end i3 (by omega) hK
    have hR := row_mono (row_keep i2 (grownBy_putObj' V D (.deferred none)) (fun r e => by cases e; exact ⟨_, hK, rfl⟩)) (lo' := w.heap.size) (by omega)
    refine ⟨u, ?_, ⟨u, rfl, hR⟩, hBF⟩
    simp [results, Try.f17, go_sem]
end Sk
end Go.Proofs.Ytlhpdalfnjhokaa
