/-
  the document's stock in memory: Find, Row, sum, each, right.
  goods: All.
  stocks that send goods to one another keep all, in plain words.
  the document's stock: Row, sum, each, right.
-/
import Derived.Test.YtlhpdalfnjhokaaGs4
import Derived.Test.YtlhpdalfnjhokaaGs6
import Derived.Test.YtlhpdalfnjhokaaGs2
import Derived.Test.YtlhpdalfnjhokaaGs1

set_option linter.unusedVariables false
set_option linter.unusedSimpArgs false
namespace Go.Proofs.Ytlhpdalfnjhokaa
open Go.RowKit Go.Maps
namespace Sk
open It Al Kp
attribute [local go_sem] Oper.semAt_some
/-- a row of the document's, its cells -/
def rsL (p : Key × Row) : List Value := .string ⟨p.1.toArray⟩ :: p.2.map (Value.int .i64)
def rsC (s : Stk) : List Value := s.flatMap rsL
theorem rsL_len {p : Key × Row} (h : OkP p) : (rsL p).length = 12 := by unfold rsL; simp [h.row.len]
theorem rsC_len : ∀ {s : Stk}, (∀ p ∈ s, OkP p) → (rsC s).length = s.length * 12
  | [], _ => rfl
  | p :: r, h => by
    unfold rsC
    rw [List.flatMap_cons, List.length_append, rsL_len (h p (by simp))]
    have := rsC_len fun q hq => h q (List.mem_cons_of_mem _ hq)
    unfold rsC at this
    rw [this, List.length_cons]
    omega
theorem rsC_get : ∀ {s : Stk} (_ : ∀ p ∈ s, OkP p) (i : Nat) (hi : i < s.length) (j : Nat), j < 12 → (rsC s)[i * 12 + j]? = (rsL s[i])[j]?
  | [], _, i, hi, _, _ => absurd hi (by simp)
  | p :: r, h, 0, _, j, hj => by
    unfold rsC
    rw [List.flatMap_cons, List.getElem?_append_left (by rw [rsL_len (h p (by simp))]; omega)]
    simp
  | p :: r, h, i + 1, hi, j, hj => by
    have ih := rsC_get (s := r) (fun q hq => h q (List.mem_cons_of_mem _ hq)) i (by simpa using hi) j hj
    unfold rsC at ih ⊢
    rw [List.flatMap_cons, List.getElem?_append_right (by rw [rsL_len (h p (by simp))]; omega), rsL_len (h p (by simp))]
    rw [show (i + 1) * 12 + j - 12 = i * 12 + j by omega, ih]
    rfl
theorem rsC_one {s : Stk} : ∀ y ∈ rsC s, y.oneCell' = true := by
  intro y hy
  obtain ⟨p, -, hp⟩ := List.mem_flatMap.1 hy
  rcases List.mem_cons.1 hp with rfl | hp
  · rfl
  · obtain ⟨x, -, rfl⟩ := List.mem_map.1 hp
    rfl
/-- a slice of the document's rows -/
structure RowsAt (w : World) (base : Nat) (v : Value) (s : Stk) : Prop where
  own : w.ownsRow base 78 12 v s.length (rsC s)
  ok : ∀ p ∈ s, OkP p
/-- the document's stock: its struct at x -/
structure RsAt (w : World) (base x : Nat) (s : Stk) : Prop where
  ob : ∃ v, Ob w x 76 #[v] ∧ RowsAt w base v s
  lo : base ≤ x
theorem own_apart_t {w : World} {lo size n b : Nat} {e t : TypeId} {v : Value} {xs : List Value} {cs : Array Value} (h : w.ownsRow lo e size v n xs) (ho : Ob w b t cs) (hne : t ≠ e) : some b ≠ v.ownBlock := by
  rcases h.2 with ⟨rfl, -⟩ | ⟨g, cap, cur, rfl, -, hg, -⟩
  · simp [Value.ownBlock]
  · intro e2
    have e3 : b = g := Option.some.inj e2
    subst e3
    have h2 : w.heap[b]? = _ := ho
    rw [h2] at hg
    cases hg
    exact hne rfl
section
variable {w w' : World} {base x : Nat} {v : Value} {s : Stk}
theorem RowsAt.kept {row : Option Nat} (h : RowsAt w base v s) (hg : w.grownBy w' row) (hr : ∀ r, row = some r → ∃ t cs, Ob w r t cs ∧ t ≠ 78) : RowsAt w' base v s := by
  refine ⟨h.own.kept hg ?_, h.ok⟩
  cases hrow : row with
  | none =>
    cases hv : v.ownBlock with
    | none => exact .inl rfl
    | some q => exact .inr (by simp)
  | some r =>
    obtain ⟨t, cs, ho, hne⟩ := hr r hrow
    exact .inr fun e => own_apart_t h.own ho hne e.symm
theorem RowsAt.same (h : RowsAt w base v s) (hb : Below w.heap.size w w') : RowsAt w' base v s := ⟨ownsRow_below h.own hb, h.ok⟩
theorem RsAt.same (h : RsAt w base x s) (hb : Below w.heap.size w w') : RsAt w' base x s := by
  obtain ⟨v, h1, h2⟩ := h.ob
  exact ⟨⟨v, h1.same hb, h2.same hb⟩, h.lo⟩
theorem RowsAt.cellAt {n c : Nat} {A : Option Addr} (h : RowsAt w base (.slice A n c) s) {i : Nat} (hi : i < s.length) : ∃ g, A = some ⟨g, 0, none⟩ ∧ base ≤ g ∧ g < w.heap.size ∧ w.rangeAt g (i * 12) (rsL s[i]) := by
  rcases h.own.2 with ⟨e, e2⟩ | ⟨g, cap, cur, e, hbg, hg, hnc, hcm, hcs, htake⟩
  · omega
  · cases e
    refine ⟨g, rfl, hbg, (Array.getElem?_eq_some_iff.1 hg).1, fun j v hj => ?_⟩
    have hj12 : j < 12 := by have := (List.getElem?_eq_some_iff.1 hj).1; rwa [rsL_len (h.ok _ (List.getElem_mem hi))] at this
    have h1 := rsC_get h.ok i hi j hj12
    rw [hj, ← htake, List.getElem?_take, if_pos (by have : i * 12 + 12 ≤ s.length * 12 := by omega
                                                    omega)] at h1
    have hob : Ob w g 78 cur := hg
    exact hob.cell (by simpa using h1)
theorem RowsAt.form (h : RowsAt w base v s) : ∃ A c, v = .slice A s.length c ∧ s.length ≤ c ∧ c ≤ maxLen := by
  rcases h.own.2 with ⟨e, e2⟩ | ⟨g, cap, cur, e, hbg, hg, hnc, hcm, hcs, htake⟩
  · exact ⟨none, 0, by rw [e, e2], by omega, by unfold maxLen; omega⟩
  · exact ⟨_, cap, e, hnc, hcm⟩
end
/-- where a good is -/
def findS (s : Stk) (g : Key) : Int := match s.findIdx? (fun p => decide (p.1 = g)) with
  | some i => i
  | none => -1
def noneOf (s : Stk) (g : Key) (k : Nat) : Prop := ∀ j (hj : j < s.length), j < k → s[j].1 ≠ g
theorem findS_at {s : Stk} {g : Key} {k : Nat} (hk : k < s.length) (h : noneOf s g k) (he : s[k].1 = g) : findS s g = k := by
  unfold findS
  have : s.findIdx? (fun p => decide (p.1 = g)) = some k := by
    rw [List.findIdx?_eq_some_iff_getElem]
    exact ⟨hk, by simpa using he, fun j hj => by simpa using h j (by omega) hj⟩
  rw [this]
theorem findS_none {s : Stk} {g : Key} (h : noneOf s g s.length) : findS s g = -1 := by
  unfold findS
  have : s.findIdx? (fun p => decide (p.1 = g)) = none := by
    rw [List.findIdx?_eq_none_iff]
    intro p hp
    obtain ⟨j, hj, rfl⟩ := List.getElem_of_mem hp
    simpa using h j hj hj
  rw [this]
theorem key_eq (k : Key) (g : ByteArray) : (k == g.toList) = decide (k = g.data.toList) := by
  rw [toList_key]
  by_cases h : k = g.data.toList <;> simp [h]
theorem find_calls {w : World} {base x : Nat} {s : Stk} (h : RsAt w base x s) (g : ByteArray) :
    Calls Try.prog 52 #[.pointer (some ⟨x, 0, none⟩), .string g] w fun e w' => e = .returned (.int .i64 (findS s g.data.toList)) ∧ w = w' := by
  obtain ⟨v, hO, hR⟩ := h.ob
  obtain ⟨A, c, rfl, hc1, hc2⟩ := hR.form
  unfold maxLen at hc2
  have hx := hO.cell (j := 0) (v := .slice A s.length c) rfl
  clear hO
  go_enter Try.func52, Try.ntmps52
  go_wp2
  go_loop [5] (fun i => ∃ k : Nat, k ≤ s.length ∧ i = .int .i64 k ∧ noneOf s g.data.toList k) (fun i => s.length - (intOf i).toNat)
  case atStart => exact ⟨0, by omega, rfl, fun j _ hj => by omega⟩
  case round =>
    obtain ⟨k, hk, rfl, hN⟩ := hrel
    have HN := Lib.hid hN
    clear hN
    by_cases hlt : k < s.length
    · obtain ⟨gb, rfl, -, hgb, hr⟩ := hR.cellAt hlt
      have hcell := hr 0 _ rfl
      rw [Nat.add_zero] at hcell
      clear hr
      have hd : decide ((k : Int) < (s.length : Int)) = true := by simp; omega
      have HK := Lib.hid (key_eq s[k].1 g)
      generalize hq : s[k].1 = q at hcell HK
      have HQ := Lib.hid hq
      clear hq
      cases ht : (q == g.toList)
      · go_wp2
        go_round
        case rel =>
          refine ⟨k + 1, by omega, by go_num, fun j hj hjk => ?_⟩
          rcases Nat.lt_or_ge j k with h1 | h1
          · exact HN.out j hj h1
          · obtain rfl : j = k := by omega
            rw [HQ.out]
            rw [HK.out] at ht
            simpa using ht
        case measure => simp [intOf]; omega
      · go_wp2
        go_ret
        rw [HK.out] at ht
        exact ⟨ret1 (num (findS_at hlt HN.out (by rw [HQ.out]; simpa using ht)).symm), rfl⟩
    · obtain rfl : k = s.length := by omega
      go_wp2
      go_ret
      exact ⟨ret1 (num (findS_none HN.out).symm), rfl⟩
end Sk
end Go.Proofs.Ytlhpdalfnjhokaa

namespace Go.Proofs.Ytlhpdalfnjhokaa
open Go.RowKit Go.Maps
namespace Sk
open It Al Kp
attribute [local go_sem] Oper.semAt_some
/-- whether a good's total is kept -/
def kpS (ss : List Stk) (k : Key) : Bool := keptT (at_ (totR ss k) 0) (at_ (totR ss k) 1) (at_ (totR ss k) 2) (at_ (totR ss k) 3) (at_ (totR ss k) 4) (at_ (totR ss k) 5) (at_ (totR ss k) 6) (at_ (totR ss k) 7) (at_ (totR ss k) 8) (at_ (totR ss k) 9) (at_ (totR ss k) 10) (wayT (totR ss k))
def allS (ss : List Stk) : Bool := (allKeys ss).all (kpS ss)
set_option maxRecDepth 100000 in
set_option maxHeartbeats 2000000 in
theorem all1_calls (ss : List Stk) (k : Key) (w : World) :
    Calls Try.prog 32 #[.agg (totL ss k).toArray] w fun e w' => e = .returned (.bool (!kpS ss k)) ∧ Below w.heap.size w w' := by
  have hC : totL ss k = [.string ⟨k.toArray⟩, .int .i64 (at_ (totR ss k) 0), .int .i64 (at_ (totR ss k) 1), .int .i64 (at_ (totR ss k) 2), .int .i64 (at_ (totR ss k) 3), .int .i64 (at_ (totR ss k) 4), .int .i64 (at_ (totR ss k) 5), .int .i64 (at_ (totR ss k) 6), .int .i64 (at_ (totR ss k) 7), .int .i64 (at_ (totR ss k) 8), .int .i64 (at_ (totR ss k) 9), .int .i64 (at_ (totR ss k) 10), .int .i64 (wayT (totR ss k))] := rfl
  rw [hC]
  unfold kpS
  clear hC
  have cK := Lib.hid (fun W => kept_calls ⟨k.toArray⟩ (at_ (totR ss k) 0) (at_ (totR ss k) 1) (at_ (totR ss k) 2) (at_ (totR ss k) 3) (at_ (totR ss k) 4) (at_ (totR ss k) 5) (at_ (totR ss k) 6) (at_ (totR ss k) 7) (at_ (totR ss k) 8) (at_ (totR ss k) 9) (at_ (totR ss k) 10) (wayT (totR ss k)) W)
  generalize keptT (at_ (totR ss k) 0) (at_ (totR ss k) 1) (at_ (totR ss k) 2) (at_ (totR ss k) 3) (at_ (totR ss k) 4) (at_ (totR ss k) 5) (at_ (totR ss k) 6) (at_ (totR ss k) 7) (at_ (totR ss k) 8) (at_ (totR ss k) 9) (at_ (totR ss k) 10) (wayT (totR ss k)) = b at *
  generalize wayT (totR ss k) = wy at *
  generalize totR ss k = r at *
  generalize at_ r 0 = a0 at *
  generalize at_ r 1 = a1 at *
  generalize at_ r 2 = a2 at *
  generalize at_ r 3 = a3 at *
  generalize at_ r 4 = a4 at *
  generalize at_ r 5 = a5 at *
  generalize at_ r 6 = a6 at *
  generalize at_ r 7 = a7 at *
  generalize at_ r 8 = a8 at *
  generalize at_ r 9 = a9 at *
  generalize at_ r 10 = a10 at *
  have hB : Below w.heap.size w (w.alloc (.cells #[.string ⟨k.toArray⟩, .int .i64 a0, .int .i64 a1, .int .i64 a2, .int .i64 a3, .int .i64 a4, .int .i64 a5, .int .i64 a6, .int .i64 a7, .int .i64 a8, .int .i64 a9, .int .i64 a10, .int .i64 wy] 27)) := (Below.refl _ w).alloc (Nat.le_refl _) _
  have o1 := Ob.new w 27 #[.string ⟨k.toArray⟩, .int .i64 a0, .int .i64 a1, .int .i64 a2, .int .i64 a3, .int .i64 a4, .int .i64 a5, .int .i64 a6, .int .i64 a7, .int .i64 a8, .int .i64 a9, .int .i64 a10, .int .i64 wy]
  go_enter Try.func32, Try.ntmps32
  go_wp2_with (first | (refine wpList_load_ob rfl 27 (.tmp 1) rfl rfl Try.underlying27 o1 rfl rfl (by kernel_rfl) ?_) | (go_at_call 13; refine (cK.out _).mono ?_; rintro e w' ⟨rfl, hb⟩))
  have hBF := hB.trans (hb.mono hB.size)
  go_wp2
  go_ret
  exact ⟨rfl, hBF⟩
def okS (ss : List Stk) (ks : List Key) (j : Nat) : Prop := ∀ i (hi : i < ks.length), i < j → kpS ss ks[i] = true
set_option maxRecDepth 100000 in
set_option maxHeartbeats 2000000 in
theorem index_calls (ss : List Stk) (ks : List Key) (v : Value) (lo : Nat) (w : World) (hv : Sl w lo w.heap.size 13 v ks.length (ks.flatMap (totL ss))) :
    Calls Try.prog 50 #[v, .func (.func 32) #[] #[]] w fun e w' => (∃ r : Int, e = .returned (.int .i64 r) ∧ (0 ≤ r ↔ ¬ okS ss ks ks.length)) ∧ Below w.heap.size w w' := by
  obtain ⟨A, c, rfl, hc1, hc2, hc⟩ := hv.at_
  clear hv
  unfold maxLen at hc2
  go_enter Try.func50, Try.ntmps50
  go_wp2
  go_loopw [8] (fun i wr => ∃ k : Nat, k ≤ ks.length ∧ i = .int .i64 k ∧ okS ss ks k ∧ Below w.heap.size w wr) (fun i _ => ks.length - (intOf i).toNat)
  case atStart => exact ⟨0, by omega, rfl, fun i hi h => by omega, Below.refl _ _⟩
  case round =>
    obtain ⟨k, hk, rfl, hN, hb⟩ := hrel
    have HN := Lib.hid hN
    clear hN
    by_cases hlt : k < ks.length
    · obtain ⟨b, o, rfl, _, hbB, hcell⟩ := hc (by omega)
      have hR : wr.rangeAt b (o + k * 13) (totL ss ks[k]) := by
        intro j x hj
        have hj13 : j < 13 := by have := (List.getElem?_eq_some_iff.1 hj).1; rwa [totL_len] at this
        have h1 := hcell (k * 13 + j) (by omega)
        rw [flat_get ss ks k hlt j hj13, hj] at h1
        rw [hb.cell (p := ⟨b, o + k * 13 + j, none⟩) hbB, Nat.add_assoc]
        exact h1
      clear hcell hc
      have HKK := Lib.hid (show ∀ i, i < ks.length → i = k → kpS ss ks[k] = true → ∀ (hi : i < ks.length), kpS ss ks[i] = true from fun i _ e h hi => by subst e; exact h)
      have cN := Lib.hid (fun W => all1_calls ss ks[k] W)
      have hL : (totL ss ks[k]).length = 13 := rfl
      have HKE := Lib.hid (show ∃ g, g = kpS ss ks[k] ∧ ∀ (hi : k < ks.length), kpS ss ks[k] = g from ⟨_, rfl, fun _ => rfl⟩)
      generalize ho : kpS ss ks[k] = ok at cN
      have HO := Lib.hid ho
      clear ho
      generalize totL ss ks[k] = tl at *
      go_wp2_with (first | (refine wpList_load_mid rfl 27 (.tmp 14) rfl b (o + k * 13) rfl tl _ hR Try.underlying27 rfl (by rw [hL]; kernel_rfl) ?_))
      refine (cN.out _).mono ?_
      rintro e w' ⟨rfl, hb2⟩
      have hbn := hb.trans (hb2.mono hb.size)
      cases ok with
      | true =>
        go_wp2_with fail
        go_roundw
        case rel =>
          refine ⟨k + 1, by omega, by go_num, fun i hi hik => ?_, hbn⟩
          rcases Nat.lt_or_ge i k with h | h
          · exact HN.out i hi h
          · exact HKK.out i hi (by omega) HO.out hi
        case measure => simp [intOf]; omega
      | false =>
        go_wp2_with fail
        go_ret
        refine ⟨⟨k, rfl, ⟨fun _ h => ?_, fun _ => by omega⟩⟩, hbn⟩
        have := h k hlt hlt
        rw [HO.out] at this
        cases this
    · clear hc
      obtain rfl : k = ks.length := by omega
      go_wp2
      go_ret
      exact ⟨⟨-1, rfl, Iff.intro (fun h => by omega) (fun h => absurd HN.out h)⟩, hb⟩
theorem okS_all (ss : List Stk) (ks : List Key) : okS ss ks ks.length ↔ ks.all (kpS ss) = true := by
  unfold okS
  rw [List.all_eq_true]
  constructor
  · intro h x hx
    obtain ⟨j, hj, rfl⟩ := List.getElem_of_mem hx
    exact h j hj hj
  · exact fun h i hi _ => h _ (List.getElem_mem hi)
set_option maxHeartbeats 1000000 in
theorem contains_calls (ss : List Stk) (ks : List Key) (v : Value) (lo : Nat) (w : World) (hv : Sl w lo w.heap.size 13 v ks.length (ks.flatMap (totL ss))) :
    Calls Try.prog 31 #[v, .func (.func 32) #[] #[]] w fun e w' => e = .returned (.bool (!(ks.all (kpS ss)))) ∧ Below w.heap.size w w' := by
  have cI := Lib.hid (index_calls ss ks v lo w hv)
  obtain ⟨A, c, rfl, hc1, hc2, hc⟩ := hv.at_
  clear hc hv
  go_enter Try.func31, Try.ntmps31
  go_wp2_with fail
  refine cI.out.mono ?_
  rintro e w' ⟨⟨r, rfl, hr⟩, hb⟩
  have HR := Lib.hid (show (!(ks.all (kpS ss))) = decide (r ≥ 0) by
    rw [okS_all] at hr
    cases h : ks.all (kpS ss) <;> simp [h] at hr ⊢ <;> omega)
  clear hr
  go_wp2
  go_ret
  exact ⟨ret1 (boo HR.out.symm), hb⟩
set_option maxHeartbeats 1000000 in
theorem all_calls (ss : List Stk) (v : Value) (w : World) (base : Nat) (h : StsAt w base v ss) (hl : ss.length ≤ 1000) :
    Calls Try.prog 18 #[v] w fun e w' => e = .returned (.bool (allS ss)) ∧ Below w.heap.size w w' := by
  have cT := Lib.hid (totals_calls ss v w base h hl)
  have HA := Lib.hid (show allS ss = (allKeys ss).all (kpS ss) from rfl)
  obtain ⟨ps, hpl, hsl, hps⟩ := h.at_
  obtain ⟨A, c, rfl, hc1, hc2, -⟩ := hsl.at_
  clear hsl hps hpl h
  go_enter Try.func18, Try.ntmps18
  go_wp2_with fail
  refine cT.out.mono ?_
  rintro e W1 ⟨⟨u, rfl, hu⟩, hb1⟩
  have hsl := Sl.of_own hu
  have cC := Lib.hid (contains_calls ss (allKeys ss) u w.heap.size W1 hsl)
  obtain ⟨A1, c1, rfl, -⟩ := hsl.at_
  clear hsl hu
  go_wp2_with fail
  refine cC.out.mono ?_
  rintro e W2 ⟨rfl, hb2⟩
  have hbn := hb1.trans (hb2.mono hb1.size)
  generalize (allKeys ss).all (kpS ss) = b at *
  go_wp2
  go_ret
  exact ⟨by rw [HA.out]; rfl, hbn⟩
end Sk
end Go.Proofs.Ytlhpdalfnjhokaa

namespace Go.Proofs.Ytlhpdalfnjhokaa
open Go.RowKit Go.Maps
namespace Sk
open It Al Kp
def rowG (s : Stk) (g : Key) : Row := (aGet s g).getD row0
/-- a row that may be, behind T counts -/
structure RowOk (T : Nat) (r : Row) : Prop where
  len : r.length = 11
  each : eachR r = true
  lo : -(T * 1099511627776 : Int) ≤ at_ r 6
  hi : at_ r 6 ≤ T * 1099511627776
  bal : at_ r 0 + at_ r 1 + at_ r 2 + at_ r 3 = at_ r 4 + at_ r 5 + at_ r 6 + at_ r 7 - at_ r 8 - at_ r 9 - at_ r 10
theorem RowOk.zero (T : Nat) : RowOk T row0 := ⟨rfl, by decide, by show _ ≤ (0 : Int); omega, by show (0 : Int) ≤ _; omega, by decide⟩
theorem RowOk.more {T T' : Nat} {r : Row} (h : RowOk T r) (ht : T ≤ T') : RowOk T' r := ⟨h.len, h.each, by have := h.lo; omega, by have := h.hi; omega, h.bal⟩
theorem flow_at {r : Row} (h : eachR r = true) {j : Nat} (hj : j < 11) (h4 : ¬ j < 4) (h6 : j ≠ 6) : 0 ≤ at_ r j ∧ at_ r j ≤ 72057594037927936 := by
  have := eachR_at h hj
  unfold okAt flowOk at this
  rw [if_neg h4, if_neg h6] at this
  simpa using this
theorem RowOk.bd {T : Nat} {r : Row} (h : RowOk T r) (hT : T ≤ 100) (j : Nat) : -144115188075855872 ≤ at_ r j ∧ at_ r j ≤ 144115188075855872 := by
  rcases Nat.lt_or_ge j 11 with hj | hj
  · by_cases h4 : j < 4
    · have := eachR_four h.each h4
      omega
    · by_cases h6 : j = 6
      · subst h6
        have h1 := h.lo
        have h2 := h.hi
        omega
      · have := flow_at h.each hj h4 h6
        omega
  · have : at_ r j = 0 := by
      unfold at_
      rw [List.getD_eq_getElem?_getD, List.getElem?_eq_none (by rw [h.len]; omega)]
      rfl
    omega
theorem wrap_sum {x n : Int} (h1 : -144115188075855872 ≤ x) (h2 : x ≤ 144115188075855872) (h3 : -4398046511104 ≤ n) (h4 : n ≤ 4398046511104) : wrap64 (x + n) = x + n := by unfold wrap64; omega
theorem row_eta {r : Row} (h : r.length = 11) : r = [at_ r 0, at_ r 1, at_ r 2, at_ r 3, at_ r 4, at_ r 5, at_ r 6, at_ r 7, at_ r 8, at_ r 9, at_ r 10] := by
  match r, h with
  | [a, b, c, d, e, f, g, h, i, j, k], _ => rfl
theorem at_eleven (a b c d e f g h i j k : Int) : at_ [a, b, c, d, e, f, g, h, i, j, k] 0 = a ∧ at_ [a, b, c, d, e, f, g, h, i, j, k] 1 = b ∧ at_ [a, b, c, d, e, f, g, h, i, j, k] 2 = c ∧ at_ [a, b, c, d, e, f, g, h, i, j, k] 3 = d ∧ at_ [a, b, c, d, e, f, g, h, i, j, k] 4 = e ∧ at_ [a, b, c, d, e, f, g, h, i, j, k] 5 = f ∧ at_ [a, b, c, d, e, f, g, h, i, j, k] 6 = g ∧ at_ [a, b, c, d, e, f, g, h, i, j, k] 7 = h ∧ at_ [a, b, c, d, e, f, g, h, i, j, k] 8 = i ∧ at_ [a, b, c, d, e, f, g, h, i, j, k] 9 = j ∧ at_ [a, b, c, d, e, f, g, h, i, j, k] 10 = k := ⟨rfl, rfl, rfl, rfl, rfl, rfl, rfl, rfl, rfl, rfl, rfl⟩
/-- what a kind makes of a row, its numbers one by one -/
theorem step_list (k : Int) (a b c d e f g h i j l n : Int) (hk : k = 1 ∨ k = 2 ∨ k = 3 ∨ k = 4 ∨ k = 5 ∨ k = 6 ∨ k = 7 ∨ k = 8 ∨ k = 9 ∨ k = 10 ∨ k = 11) : stepR k [a, b, c, d, e, f, g, h, i, j, l] n =
    if k = 1 then [wrap64 (a + n), b, c, d, wrap64 (e + n), f, g, h, i, j, l] else if k = 2 then [wrap64 (a + -n), wrap64 (b + n), c, d, e, f, g, h, i, j, l] else if k = 3 then [wrap64 (a + n), wrap64 (b + -n), c, d, e, f, g, h, i, j, l]
    else if k = 4 then [a, wrap64 (b + -n), wrap64 (c + n), d, e, f, g, h, i, j, l] else if k = 5 then [a, wrap64 (b + n), wrap64 (c + -n), d, e, f, g, h, i, j, l] else if k = 6 then [a, b, wrap64 (c + -n), d, e, f, g, h, wrap64 (i + n), j, l]
    else if k = 7 then [a, b, c, wrap64 (d + n), e, wrap64 (f + n), g, h, i, j, l] else if k = 8 then [wrap64 (a + n), b, c, wrap64 (d + -n), e, f, g, h, i, j, l] else if k = 9 then [a, b, c, wrap64 (d + -n), e, f, g, h, i, wrap64 (j + n), l]
    else if k = 10 then [wrap64 (a + -n), b, c, d, e, f, g, h, i, j, wrap64 (l + n)] else if k = 11 then [wrap64 (a + n), b, c, d, e, f, g, wrap64 (h + n), i, j, l] else [a, b, c, d, e, f, g, h, i, j, l] := by
  rcases hk with rfl | rfl | rfl | rfl | rfl | rfl | rfl | rfl | rfl | rfl | rfl
  all_goals rfl
theorem step_ok {T : Nat} {r : Row} (h : RowOk T r) (hT : T ≤ 100) {k n : Int} (hk : 1 ≤ k ∧ k ≤ 11) (hn : 1 ≤ n ∧ n ≤ 1099511627776) (hr : rightR (stepR k r n) = true) :
    RowOk T (stepR k r n) ∧ at_ (stepR k r n) 7 = at_ r 7 + (if k = 11 then n else 0) ∧ at_ (stepR k r n) 10 = at_ r 10 + (if k = 10 then n else 0) := by
  have he : eachR (stepR k r n) = true := by unfold rightR at hr; rw [Bool.and_eq_true] at hr; exact hr.1
  have b0 := h.bd hT 0
  have b1 := h.bd hT 1
  have b2 := h.bd hT 2
  have b3 := h.bd hT 3
  have b4 := h.bd hT 4
  have b5 := h.bd hT 5
  have b7 := h.bd hT 7
  have b8 := h.bd hT 8
  have b9 := h.bd hT 9
  have b10 := h.bd hT 10
  have hlo := h.lo
  have hhi := h.hi
  have hbal := h.bal
  have kc : k = 1 ∨ k = 2 ∨ k = 3 ∨ k = 4 ∨ k = 5 ∨ k = 6 ∨ k = 7 ∨ k = 8 ∨ k = 9 ∨ k = 10 ∨ k = 11 := by omega
  have hl : (stepR k r n).length = 11 := by
    rw [row_eta h.len, step_list _ _ _ _ _ _ _ _ _ _ _ _ _ kc]
    rcases kc with rfl | rfl | rfl | rfl | rfl | rfl | rfl | rfl | rfl | rfl | rfl
    all_goals rfl
  suffices hs : (at_ (stepR k r n) 6 = at_ r 6) ∧ (at_ (stepR k r n) 0 + at_ (stepR k r n) 1 + at_ (stepR k r n) 2 + at_ (stepR k r n) 3 = at_ (stepR k r n) 4 + at_ (stepR k r n) 5 + at_ (stepR k r n) 6 + at_ (stepR k r n) 7 - at_ (stepR k r n) 8 - at_ (stepR k r n) 9 - at_ (stepR k r n) 10) ∧ at_ (stepR k r n) 7 = at_ r 7 + (if k = 11 then n else 0) ∧ at_ (stepR k r n) 10 = at_ r 10 + (if k = 10 then n else 0) by
    exact ⟨⟨hl, he, by rw [hs.1]; exact hlo, by rw [hs.1]; exact hhi, hs.2.1⟩, hs.2.2⟩
  clear he hl hr hlo hhi
  generalize hq : stepR k r n = q
  rw [row_eta h.len, step_list _ _ _ _ _ _ _ _ _ _ _ _ _ kc] at hq
  generalize at_ r 0 = a at *
  generalize at_ r 1 = b at *
  generalize at_ r 2 = c at *
  generalize at_ r 3 = d at *
  generalize at_ r 4 = e at *
  generalize at_ r 5 = f at *
  generalize at_ r 6 = g at *
  generalize at_ r 7 = m at *
  generalize at_ r 8 = i at *
  generalize at_ r 9 = j at *
  generalize at_ r 10 = l at *
  clear h
  rcases kc with rfl | rfl | rfl | rfl | rfl | rfl | rfl | rfl | rfl | rfl | rfl
  all_goals
    simp (config := { decide := true }) only [if_true, if_false] at hq ⊢
    subst hq
    repeat rw [wrap_sum (by omega) (by omega) (by omega) (by omega)]
    refine ⟨rfl, ?_, ?_, ?_⟩
    all_goals (simp only [at_, List.getD_cons_zero, List.getD_cons_succ]; try omega)
/-- how many of a good a list has -/
def amt (L : List It.Item) (g : Key) : Int := ((L.filter fun x => decide (key x = g)).map (·.2)).sum
theorem amt_cons (x : It.Item) (L : List It.Item) (g : Key) : amt (x :: L) g = (if g = key x then x.2 else 0) + amt L g := by
  unfold amt
  by_cases h : g = key x
  · simp [h]
  · have h' : ¬ key x = g := fun e => h e.symm
    simp [h, h']
theorem amt_nonneg {L : List It.Item} (h : ∀ x ∈ L, 1 ≤ x.2 ∧ x.2 ≤ 1099511627776) (g : Key) : 0 ≤ amt L g := by
  induction L with
  | nil => simp [amt]
  | cons x r ih =>
    rw [amt_cons]
    have h1 := h x (by simp)
    have h2 := ih fun y hy => h y (List.mem_cons_of_mem _ hy)
    split <;> omega
theorem rowG_put (s : Stk) (k j : Key) (q : Row) : rowG (aPut strK s k q) j = if j = k then q else rowG s j := by
  unfold rowG
  rw [aGet_put]
  split <;> rfl
theorem rowG_ok {T : Nat} {s : Stk} (h : ∀ p ∈ s, RowOk T p.2) (g : Key) : RowOk T (rowG s g) := by
  unfold rowG
  cases hg : aGet s g with
  | none => exact RowOk.zero T
  | some r => exact h _ (aGet_mem hg)
theorem put_ok {T : Nat} {s : Stk} (h : ∀ p ∈ s, RowOk T p.2) {k : Key} {q : Row} (hq : RowOk T q) : ∀ p ∈ aPut strK s k q, RowOk T p.2 := fun p hp => by
  rcases aPut_mem.1 hp with rfl | ⟨h1, -⟩
  · exact hq
  · exact h p h1
theorem go_ok {T : Nat} (hT : T ≤ 100) {k : Int} (hk : 1 ≤ k ∧ k ≤ 11) : ∀ (L : List It.Item) (s s' : Stk), (∀ x ∈ L, 1 ≤ x.2 ∧ x.2 ≤ 1099511627776) → (∀ p ∈ s, RowOk T p.2) → L.foldl (goStep k) (some s) = some s' →
    (∀ p ∈ s', RowOk T p.2) ∧ ∀ g, at_ (rowG s' g) 7 = at_ (rowG s g) 7 + (if k = 11 then amt L g else 0) ∧ at_ (rowG s' g) 10 = at_ (rowG s g) 10 + (if k = 10 then amt L g else 0)
  | [], s, s', _, h, e => by
    simp only [List.foldl_nil, Option.some.injEq] at e
    subst e
    exact ⟨h, fun g => by simp [amt]⟩
  | x :: L, s, s', hL, h, e => by
    rw [List.foldl_cons] at e
    have hx := hL x (by simp)
    by_cases hr : rightR (stepR k (rowG s (key x)) x.2) = true
    · have e1 : goStep k (some s) x = some (aPut strK s (key x) (stepR k (rowG s (key x)) x.2)) := by
        show (if rightR (stepR k (rowG s (key x)) x.2) = true then _ else _) = _
        rw [if_pos hr]
        rfl
      rw [e1] at e
      obtain ⟨h1, h2, h3⟩ := step_ok (rowG_ok h (key x)) hT hk hx hr
      obtain ⟨i1, i2⟩ := go_ok hT hk L _ _ (fun y hy => hL y (List.mem_cons_of_mem _ hy)) (put_ok h h1) e
      refine ⟨i1, fun g => ?_⟩
      obtain ⟨j1, j2⟩ := i2 g
      rw [rowG_put] at j1 j2
      rw [amt_cons]
      by_cases hg : g = key x
      · simp only [hg, if_true] at j1 j2 ⊢
        rw [j1, j2, h2, h3]
        constructor
        · split <;> omega
        · split <;> omega
      · simp only [hg, if_false] at j1 j2 ⊢
        rw [j1, j2]
        constructor <;> (split <;> omega)
    · have e1 : goStep k (some s) x = none := by
        show (if rightR (stepR k (rowG s (key x)) x.2) = true then _ else _) = _
        rw [if_neg hr]
      rw [e1, doGo_none] at e
      cases e
theorem do_ok {T : Nat} (hT : T ≤ 100) {s : Stk} (h : ∀ p ∈ s, RowOk T p.2) (k : Int) (L : List It.Item) :
    (doS s k L).1 = s ∧ (doS s k L).2 ≠ 0 ∨ (doS s k L).2 = 0 ∧ (∀ x ∈ L, 1 ≤ x.2 ∧ x.2 ≤ 1099511627776) ∧ (∀ p ∈ (doS s k L).1, RowOk T p.2) ∧ ∀ g, at_ (rowG (doS s k L).1 g) 7 = at_ (rowG s g) 7 + (if k = 11 then amt L g else 0) ∧ at_ (rowG (doS s k L).1 g) 10 = at_ (rowG s g) 10 + (if k = 10 then amt L g else 0) := by
  by_cases hk : k < 1 ∨ 11 < k
  · have e : doS s k L = (s, 1) := by unfold doS; rw [if_pos hk]
    rw [e]; exact .inl ⟨rfl, by simp⟩
  cases hm : It.may L with
  | false =>
    have e : doS s k L = (s, 60) := by unfold doS; rw [if_neg hk, if_pos hm]
    rw [e]; exact .inl ⟨rfl, by simp⟩
  | true =>
    by_cases hc : mayS s k L = 0
    · have e : doS s k L = goS s k L := by unfold doS; rw [if_neg hk, if_neg (by rw [hm]; simp), if_neg (by simp [hc])]; rfl
      rw [e]
      unfold goS
      cases hd : doGo k s L with
      | none => exact .inl ⟨rfl, by simp⟩
      | some s' =>
        dsimp only
        by_cases h64 : 64 < s'.length
        · rw [if_pos h64]; exact .inl ⟨rfl, by simp⟩
        · rw [if_neg h64]
          have hL : ∀ x ∈ L, 1 ≤ x.2 ∧ x.2 ≤ 1099511627776 := fun x hx => (((may_iff L).1 hm).ok x hx).2
          exact .inr ⟨rfl, hL, go_ok hT (by omega) L s s' hL h hd⟩
    · have e : doS s k L = (s, mayS s k L) := by unfold doS; rw [if_neg hk, if_neg (by rw [hm]; simp), if_pos hc]
      rw [e]; exact .inl ⟨rfl, hc⟩
theorem count_ok {T : Nat} (hT : T < 100) {s : Stk} (h : ∀ p ∈ s, RowOk T p.2) (g : Key) (n : Int) :
    (∀ p ∈ (countS s g n).1, RowOk (T + 1) p.2) ∧ ∀ j, at_ (rowG (countS s g n).1 j) 7 = at_ (rowG s j) 7 ∧ at_ (rowG (countS s g n).1 j) 10 = at_ (rowG s j) 10 := by
  have hs : (∀ p ∈ s, RowOk (T + 1) p.2) ∧ ∀ j, at_ (rowG s j) 7 = at_ (rowG s j) 7 ∧ at_ (rowG s j) 10 = at_ (rowG s j) 10 := ⟨fun p hp => (h p hp).more (by omega), fun j => ⟨rfl, rfl⟩⟩
  by_cases h1 : countOk n = false
  · have e : countS s g n = (s, 0, 1) := by unfold countS; rw [if_pos h1]
    rw [e]; exact hs
  cases hr : aGet s g with
  | none =>
    have e : countS s g n = (s, 0, 71) := by unfold countS; rw [if_neg h1, hr]
    rw [e]; exact hs
  | some r =>
    by_cases h3 : n < at_ r 1
    · have e : countS s g n = (s, 0, 70) := by unfold countS; rw [if_neg h1, hr]; dsimp only; rw [if_pos h3]
      rw [e]; exact hs
    cases hrt : rightR (countR r n) with
    | false =>
      have e : countS s g n = (s, 0, 50) := by unfold countS; rw [if_neg h1, hr]; dsimp only; rw [if_neg h3, hrt]; rfl
      rw [e]; exact hs
    | true =>
      have e : countS s g n = (aPut strK s g (countR r n), moreR r n, 0) := by unfold countS; rw [if_neg h1, hr]; dsimp only; rw [if_neg h3, hrt]; rfl
      rw [e]
      have hok := h _ (aGet_mem hr)
      have hok : RowOk T r := hok
      have hn : 0 ≤ n ∧ n ≤ 1099511627776 := by
        have : countOk n = true := by cases hh : countOk n with
          | true => rfl
          | false => exact absurd hh h1
        unfold countOk at this
        simpa using this
      have he : eachR (countR r n) = true := by unfold rightR at hrt; rw [Bool.and_eq_true] at hrt; exact hrt.1
      have f0 := eachR_four hok.each (show 0 < 4 by omega)
      have f1 := eachR_four hok.each (show 1 < 4 by omega)
      have hlo := hok.lo
      have hhi := hok.hi
      have hbal := hok.bal
      have hmo : moreR r n = n - at_ r 1 - at_ r 0 := by
        unfold moreR
        have : wrap64 (n - at_ r 1) = n - at_ r 1 := by unfold wrap64; omega
        rw [this]
        unfold wrap64
        omega
      have w0 : wrap64 (at_ r 0 + moreR r n) = n - at_ r 1 := by rw [hmo]; unfold wrap64; omega
      have w6 : wrap64 (at_ r 6 + moreR r n) = at_ r 6 + (n - at_ r 1 - at_ r 0) := by rw [hmo]; unfold wrap64; omega
      have hq : countR r n = [n - at_ r 1, at_ r 1, at_ r 2, at_ r 3, at_ r 4, at_ r 5, at_ r 6 + (n - at_ r 1 - at_ r 0), at_ r 7, at_ r 8, at_ r 9, at_ r 10] := by
        unfold countR
        rw [w0, w6]
        conv => lhs; rw [row_eta hok.len]
        rfl
      have hqo : RowOk (T + 1) (countR r n) := by
        refine ⟨by rw [hq]; rfl, he, ?_, ?_, ?_⟩
        all_goals (rw [hq]; simp only [at_, List.getD_cons_zero, List.getD_cons_succ] at *; omega)
      refine ⟨put_ok hs.1 hqo, fun j => ?_⟩
      rw [rowG_put]
      by_cases hj : j = g
      · subst hj
        have hrg : rowG s j = r := by unfold rowG; rw [hr]; rfl
        rw [if_pos rfl, hrg, hq]
        exact ⟨rfl, rfl⟩
      · rw [if_neg hj]
        exact ⟨rfl, rfl⟩
def sumG (ss : List Stk) (j : Nat) (g : Key) : Int := (ss.map fun s => at_ (rowG s g) j).sum
/-- all is kept; of a good so many are on their way at least -/
structure Inv (ss : List Stk) (T : Nat) (a : Key → Int) : Prop where
  ok : ∀ s ∈ ss, ∀ p ∈ s, RowOk T p.2
  way : ∀ g, sumG ss 7 g + a g ≤ sumG ss 10 g
theorem sum_set : ∀ (l : List Int) (i : Nat) (hi : i < l.length) (x : Int), (l.set i x).sum = l.sum - l[i] + x
  | y :: r, 0, _, x => by simp only [List.set_cons_zero, List.sum_cons, List.getElem_cons_zero]; omega
  | y :: r, i + 1, hi, x => by
    simp only [List.set_cons_succ, List.sum_cons, List.getElem_cons_succ]
    rw [sum_set r i (by simpa using hi) x]
    omega
theorem sumG_set (ss : List Stk) (i : Nat) (hi : i < ss.length) (s' : Stk) (j : Nat) (g : Key) : sumG (ss.set i s') j g = sumG ss j g - at_ (rowG ss[i] g) j + at_ (rowG s' g) j := by
  unfold sumG
  rw [List.map_set, sum_set _ _ (by simpa using hi)]
  simp
theorem Inv.put {ss : List Stk} {T T' : Nat} {a a' : Key → Int} (h : Inv ss T a) (ht : T ≤ T') (i : Nat) (hi : i < ss.length) (s' : Stk) (hok : ∀ p ∈ s', RowOk T' p.2) (hw : ∀ g, at_ (rowG s' g) 7 - at_ (rowG ss[i] g) 7 + a' g ≤ at_ (rowG s' g) 10 - at_ (rowG ss[i] g) 10 + a g) : Inv (ss.set i s') T' a' := by
  refine ⟨fun s hs p hp => ?_, fun g => ?_⟩
  · rcases List.mem_or_eq_of_mem_set hs with h1 | h1
    · exact (h.ok s h1 p hp).more ht
    · exact hok p (h1 ▸ hp)
  · rw [sumG_set _ _ hi, sumG_set _ _ hi]
    have h1 := h.way g
    have h2 := hw g
    omega
theorem Inv.none {ss : List Stk} {T : Nat} {a : Key → Int} (h : Inv ss T a) (i : Nat) (hi : i < ss.length) : Inv (ss.set i ss[i]) T a := by rw [List.set_getElem_self]; exact h
theorem Inv.less {ss : List Stk} {T T' : Nat} {a a' : Key → Int} (h : Inv ss T a) (ht : T ≤ T') (ha : ∀ g, a' g ≤ a g) : Inv ss T' a' := ⟨fun s hs p hp => (h.ok s hs p hp).more ht, fun g => by have := h.way g; have := ha g; omega⟩
theorem Inv.count {ss : List Stk} {T : Nat} (h : Inv ss T fun _ => 0) (hT : T < 100) (i : Nat) (hi : i < ss.length) (g : Key) (n : Int) : Inv (ss.set i (countS ss[i] g n).1) (T + 1) fun _ => 0 := by
  obtain ⟨h1, h2⟩ := count_ok hT (h.ok _ (List.getElem_mem hi)) g n
  exact h.put (by omega) i hi _ h1 fun j => by have := h2 j; omega
theorem Inv.do_ {ss : List Stk} {T : Nat} (h : Inv ss T fun _ => 0) (hT : T < 100) (i : Nat) (hi : i < ss.length) (k : Int) (L : List It.Item) (h10 : k ≠ 10) (h11 : k ≠ 11) : Inv (ss.set i (doS ss[i] k L).1) (T + 1) fun _ => 0 := by
  rcases do_ok (by omega) (h.ok _ (List.getElem_mem hi)) k L with ⟨h1, -⟩ | ⟨-, -, h1, h2⟩
  · rw [h1]
    exact (h.none i hi).less (by omega) fun g => Int.le_refl _
  · refine Inv.less (h.put (Nat.le_refl T) i hi _ h1 (a' := fun _ => 0) fun j => ?_) (by omega) fun g => Int.le_refl _
    have := h2 j
    rw [if_neg h10, if_neg h11] at this
    omega
theorem Inv.send {ss : List Stk} {T : Nat} (h : Inv ss T fun _ => 0) (hT : T < 100) (i : Nat) (hi : i < ss.length) (L : List It.Item) (h0 : (doS ss[i] 10 L).2 = 0) : Inv (ss.set i (doS ss[i] 10 L).1) T (amt L) ∧ ∀ g, 0 ≤ amt L g := by
  rcases do_ok (by omega) (h.ok _ (List.getElem_mem hi)) 10 L with ⟨-, h1⟩ | ⟨-, hL, h1, h2⟩
  · exact absurd h0 h1
  · refine ⟨h.put (Nat.le_refl T) i hi _ h1 fun j => ?_, amt_nonneg hL⟩
    have := h2 j
    simp only [if_true] at this
    have e : ((10 : Int) = 11) = False := by simp
    simp only [e, if_false] at this
    omega
theorem Inv.sent {ss : List Stk} {T : Nat} (h : Inv ss T fun _ => 0) (hT : T < 100) (i : Nat) (hi : i < ss.length) (L : List It.Item) (h0 : (doS ss[i] 10 L).2 ≠ 0) : Inv (ss.set i (doS ss[i] 10 L).1) (T + 1) fun _ => 0 := by
  rcases do_ok (by omega) (h.ok _ (List.getElem_mem hi)) 10 L with ⟨h1, -⟩ | ⟨h1, -⟩
  · rw [h1]
    exact (h.none i hi).less (by omega) fun g => Int.le_refl _
  · exact absurd h1 h0
theorem Inv.come {ss : List Stk} {T : Nat} {L : List It.Item} (h : Inv ss T (amt L)) (h0 : ∀ g, 0 ≤ amt L g) (hT : T < 100) (i : Nat) (hi : i < ss.length) : Inv (ss.set i (doS ss[i] 11 L).1) (T + 1) fun _ => 0 := by
  rcases do_ok (by omega) (h.ok _ (List.getElem_mem hi)) 11 L with ⟨h1, -⟩ | ⟨-, hL, h1, h2⟩
  · rw [h1]
    exact (h.none i hi).less (by omega) h0
  · refine Inv.less (h.put (Nat.le_refl T) i hi _ h1 (a' := fun _ => 0) fun j => ?_) (by omega) fun g => Int.le_refl _
    have := h2 j
    simp only [if_true] at this
    have e : ((11 : Int) = 10) = False := by simp
    simp only [e, if_false] at this
    omega
theorem Inv.new (n : Nat) : Inv (List.replicate n []) 0 fun _ => 0 := by
  refine ⟨(fun s hs p hp => by rw [List.eq_of_mem_replicate hs] at hp; cases hp), fun g => ?_⟩
  unfold sumG
  have : ∀ j, ((List.replicate n ([] : Stk)).map fun s => at_ (rowG s g) j).sum = n * at_ row0 j := fun j => by
    rw [List.map_replicate]
    induction n with
    | zero => simp
    | succ k ih => rw [List.replicate_succ, List.sum_cons, ih]; rw [show rowG [] g = row0 from rfl]; push_cast; rw [Int.add_mul]; omega
  rw [this, this]
  have e7 : at_ row0 7 = 0 := rfl
  have e10 : at_ row0 10 = 0 := rfl
  rw [e7, e10]
  omega
theorem at_add (a b : Row) (j : Nat) (hj : j < 11) : at_ (addRow a b) j = wrap64 (at_ a j + at_ b j) := by
  unfold addRow
  conv => lhs; unfold at_
  rw [List.getD_eq_getElem?_getD, List.getElem?_map, List.getElem?_range hj]
  rfl
theorem tot_exact {ss : List Stk} {T : Nat} (hT : T ≤ 100) (h : ∀ s ∈ ss, ∀ p ∈ s, RowOk T p.2) (hl : ss.length ≤ 5) (g : Key) (j : Nat) (hj : j < 11) : at_ (totR ss g) j = sumG ss j g ∧ -(ss.length * 144115188075855872 : Int) ≤ sumG ss j g ∧ sumG ss j g ≤ ss.length * 144115188075855872 := by
  generalize hn : ss.length = n
  rw [← hn]
  induction n generalizing ss with
  | zero =>
    obtain rfl := List.length_eq_zero_iff.1 hn
    have e : at_ (totR [] g) j = 0 := by
      show at_ row0 j = 0
      unfold row0 at_
      rw [List.getD_eq_getElem?_getD, List.getElem?_replicate]
      split <;> rfl
    exact ⟨e, by simp [sumG], by simp [sumG]⟩
  | succ n ih =>
    rcases List.eq_nil_or_concat ss with rfl | ⟨r, s, rfl⟩
    · cases hn
    rw [List.concat_eq_append] at *
    have hl' : r.length ≤ 4 := by simp at hl; omega
    obtain ⟨i1, i2, i3⟩ := ih (ss := r) (fun t ht => h t (by simp [ht])) (by omega) (by simpa using hn)
    have hb := (rowG_ok (h s (by simp)) g).bd hT j
    have e : sumG (r ++ [s]) j g = sumG r j g + at_ (rowG s g) j := by unfold sumG; simp
    rw [totR_snoc, at_add _ _ _ hj, i1, e]
    have hrg : at_ ((aGet s g).getD row0) j = at_ (rowG s g) j := rfl
    rw [hrg]
    simp only [List.length_append, List.length_cons, List.length_nil]
    push_cast
    refine ⟨?_, by omega, by omega⟩
    unfold wrap64
    omega
theorem kept_far (a0 a1 a2 a3 a4 a5 a6 a7 a8 a9 a10 way : Int) (h : ∀ x ∈ [a0, a1, a2, a3, way, a4, a5, a6, a8, a9], -1500000000000000000 ≤ x ∧ x ≤ 1500000000000000000) :
    keptT a0 a1 a2 a3 a4 a5 a6 a7 a8 a9 a10 way = (decide (0 ≤ way) && decide (a0 + a1 + a2 + a3 + way = a4 + a5 + a6 - a8 - a9)) := by
  simp only [List.forall_mem_cons, List.not_mem_nil, false_implies, implies_true, and_true] at h
  obtain ⟨h0, h1, h2, h3, h4, h5, h6, h7, h8, h9⟩ := h
  unfold keptT
  have w1 : wrap64 (a0 + a1) = a0 + a1 := by unfold wrap64; omega
  have w2 : wrap64 (a0 + a1 + a2) = a0 + a1 + a2 := by unfold wrap64; omega
  have w3 : wrap64 (a0 + a1 + a2 + a3) = a0 + a1 + a2 + a3 := by unfold wrap64; omega
  have w4 : wrap64 (a0 + a1 + a2 + a3 + way) = a0 + a1 + a2 + a3 + way := by unfold wrap64; omega
  have v1 : wrap64 (a4 + a5) = a4 + a5 := by unfold wrap64; omega
  have v2 : wrap64 (a4 + a5 + a6) = a4 + a5 + a6 := by unfold wrap64; omega
  have v3 : wrap64 (a4 + a5 + a6 - a8) = a4 + a5 + a6 - a8 := by unfold wrap64; omega
  have v4 : wrap64 (a4 + a5 + a6 - a8 - a9) = a4 + a5 + a6 - a8 - a9 := by unfold wrap64; omega
  rw [w1, w2, w3, w4, v1, v2, v3, v4]
  rfl
theorem sum_bal {ss : List Stk} {T : Nat} (h : ∀ s ∈ ss, ∀ p ∈ s, RowOk T p.2) (g : Key) : sumG ss 0 g + sumG ss 1 g + sumG ss 2 g + sumG ss 3 g = sumG ss 4 g + sumG ss 5 g + sumG ss 6 g + sumG ss 7 g - sumG ss 8 g - sumG ss 9 g - sumG ss 10 g := by
  induction ss with
  | nil => rfl
  | cons s r ih =>
    have i := ih fun t ht => h t (List.mem_cons_of_mem _ ht)
    have b := (rowG_ok (h s (by simp)) g).bal
    have e : ∀ j, sumG (s :: r) j g = at_ (rowG s g) j + sumG r j g := fun j => by unfold sumG; rfl
    simp only [e]
    omega
theorem Inv.kept {ss : List Stk} {T : Nat} (h : Inv ss T fun _ => 0) (hT : T ≤ 100) (hl : ss.length ≤ 5) (g : Key) : kpS ss g = true := by
  have e := fun j hj => tot_exact hT h.ok hl g j hj
  have e0 := e 0 (by omega)
  have e1 := e 1 (by omega)
  have e2 := e 2 (by omega)
  have e3 := e 3 (by omega)
  have e4 := e 4 (by omega)
  have e5 := e 5 (by omega)
  have e6 := e 6 (by omega)
  have e7 := e 7 (by omega)
  have e8 := e 8 (by omega)
  have e9 := e 9 (by omega)
  have e10 := e 10 (by omega)
  have hb := sum_bal h.ok g
  have hw := h.way g
  have hway : wayT (totR ss g) = sumG ss 10 g - sumG ss 7 g := by
    unfold wayT
    rw [e10.1, e7.1]
    unfold wrap64
    omega
  unfold kpS
  rw [e0.1, e1.1, e2.1, e3.1, e4.1, e5.1, e6.1, e7.1, e8.1, e9.1, e10.1, hway, kept_far]
  · rw [Bool.and_eq_true, decide_eq_true_eq, decide_eq_true_eq]
    omega
  · simp only [List.forall_mem_cons, List.not_mem_nil, false_implies, implies_true, and_true]
    omega
theorem Inv.all {ss : List Stk} {T : Nat} (h : Inv ss T fun _ => 0) (hT : T ≤ 100) (hl : ss.length ≤ 5) : allS ss = true := by
  unfold allS
  rw [List.all_eq_true]
  exact fun k _ => h.kept hT hl k
end Sk
end Go.Proofs.Ytlhpdalfnjhokaa

namespace Go.Proofs.Ytlhpdalfnjhokaa
open Go.RowKit Go.Maps
namespace Sk
open It Al Kp
attribute [local go_sem] Oper.semAt_some
def rsV (g : ByteArray) (r : Row) : Value := .agg (.string g :: r.map (Value.int .i64)).toArray
theorem aGet_at : ∀ {s : Stk} {g : Key} {k : Nat} (hk : k < s.length), noneOf s g k → s[k].1 = g → aGet s g = some s[k].2
  | p :: r, g, 0, _, _, e => by
    rw [aGet_cons]
    have e : p.1 = g := e
    rw [if_pos e]
    rfl
  | p :: r, g, k + 1, hk, h, e => by
    rw [aGet_cons, if_neg (show ¬ p.1 = g from h 0 (by simp) (by omega))]
    exact aGet_at (s := r) (k := k) (by simpa using hk) (fun j hj hjk => h (j + 1) (by simpa using hj) (by omega)) e
theorem aGet_no {s : Stk} {g : Key} (h : noneOf s g s.length) : aGet s g = none := by
  cases hg : aGet s g with
  | none => rfl
  | some r =>
    obtain ⟨j, hj, e⟩ := List.getElem_of_mem (aGet_mem hg)
    exact absurd (by rw [e]) (h j hj hj)
theorem findS_cases (s : Stk) (g : Key) : (noneOf s g s.length ∧ findS s g = -1 ∧ aGet s g = none) ∨ ∃ (k : Nat) (hk : k < s.length), noneOf s g k ∧ s[k].1 = g ∧ findS s g = k ∧ aGet s g = some s[k].2 := by
  by_cases h : ∃ k, ∃ hk : k < s.length, s[k].1 = g
  · have hw : ∃ k, ∃ hk : k < s.length, noneOf s g k ∧ s[k].1 = g := by
      obtain ⟨k, hk, e⟩ := h
      induction k using Nat.strongRecOn with
      | ind k ih =>
        by_cases hn : noneOf s g k
        · exact ⟨k, hk, hn, e⟩
        · unfold noneOf at hn
          simp only [Classical.not_forall, Classical.not_not] at hn
          obtain ⟨j, hj, hjk, he⟩ := hn
          exact ih j hjk hj he
    obtain ⟨k, hk, hn, e⟩ := hw
    exact .inr ⟨k, hk, hn, e, findS_at hk hn e, aGet_at hk hn e⟩
  · have hn : noneOf s g s.length := fun j hj _ e => h ⟨j, hj, e⟩
    exact .inl ⟨hn, findS_none hn, aGet_no hn⟩
set_option maxRecDepth 100000 in
set_option maxHeartbeats 8000000 in
theorem row_none {w : World} {base x : Nat} {s : Stk} (h : RsAt w base x s) (g : ByteArray) (hf : findS s g.data.toList = -1) :
    Calls Try.prog 35 #[.pointer (some ⟨x, 0, none⟩), .string g] w fun e w' => e = .returned (rsV g row0) ∧ Below w.heap.size w w' := by
  have ha := (Below.refl w.heap.size w).alloc (Nat.le_refl _) (.cells #[.string ⟨#[]⟩, .int .i64 0, .int .i64 0, .int .i64 0, .int .i64 0, .int .i64 0, .int .i64 0, .int .i64 0, .int .i64 0, .int .i64 0, .int .i64 0, .int .i64 0] 78)
  have cF := find_calls (h.same ha) g
  rw [hf] at cF
  have o1 := Ob.new w 78 #[.string ⟨#[]⟩, .int .i64 0, .int .i64 0, .int .i64 0, .int .i64 0, .int .i64 0, .int .i64 0, .int .i64 0, .int .i64 0, .int .i64 0, .int .i64 0, .int .i64 0]
  have CF := Lib.hid cF
  clear cF hf
  go_enter Try.func35, Try.ntmps35
  go_wp2_with fail
  refine CF.out.mono ?_
  rintro e W ⟨rfl, rfl⟩
  go_wp2_with (refine wpList_store_ob rfl 78 (.tmp 4) (.tmp 19) rfl rfl rfl o1 rfl (by kernel_rfl) (by simp [Value.oneCell']) ?_; intro w4 hO hg)
  have hb := ha.grown hg ha.size (fun k e => by cases e; omega)
  refine bodyPost_ret (v := rsV g row0) ?_ rfl ⟨rfl, hb⟩
  have c0 := hO.cell (j := 0) (v := .string g) rfl
  have c1 := hO.cell (j := 1) (v := .int .i64 0) rfl
  have c2 := hO.cell (j := 2) (v := .int .i64 0) rfl
  have c3 := hO.cell (j := 3) (v := .int .i64 0) rfl
  have c4 := hO.cell (j := 4) (v := .int .i64 0) rfl
  have c5 := hO.cell (j := 5) (v := .int .i64 0) rfl
  have c6 := hO.cell (j := 6) (v := .int .i64 0) rfl
  have c7 := hO.cell (j := 7) (v := .int .i64 0) rfl
  have c8 := hO.cell (j := 8) (v := .int .i64 0) rfl
  have c9 := hO.cell (j := 9) (v := .int .i64 0) rfl
  have c10 := hO.cell (j := 10) (v := .int .i64 0) rfl
  have c11 := hO.cell (j := 11) (v := .int .i64 0) rfl
  simp [results, Try.f35, go_sem, c0, c1, c2, c3, c4, c5, c6, c7, c8, c9, c10, c11, rsV, row0, List.replicate]
set_option maxRecDepth 100000 in
set_option maxHeartbeats 8000000 in
theorem row_some {w : World} {base x : Nat} {s : Stk} (h : RsAt w base x s) (g : ByteArray) (k : Nat) (hk : k < s.length) (hf : findS s g.data.toList = k) (he : s[k].1 = g.data.toList) :
    Calls Try.prog 35 #[.pointer (some ⟨x, 0, none⟩), .string g] w fun e w' => e = .returned (rsV g s[k].2) ∧ Below w.heap.size w w' := by
  have ha := (Below.refl w.heap.size w).alloc (Nat.le_refl _) (.cells #[.string ⟨#[]⟩, .int .i64 0, .int .i64 0, .int .i64 0, .int .i64 0, .int .i64 0, .int .i64 0, .int .i64 0, .int .i64 0, .int .i64 0, .int .i64 0, .int .i64 0] 78)
  have h1 := h.same ha
  have cF := find_calls h1 g
  rw [hf] at cF
  obtain ⟨v, hO, hR⟩ := h1.ob
  obtain ⟨A, c, rfl, hc1, hc2⟩ := hR.form
  unfold maxLen at hc2
  have hx := hO.cell (j := 0) (v := .slice A s.length c) rfl
  obtain ⟨gb, rfl, -, hgb, hr⟩ := hR.cellAt hk
  obtain ⟨a0, a1, a2, a3, a4, a5, a6, a7, a8, a9, a10, e11⟩ := row_eleven (hR.ok _ (List.getElem_mem hk)).row
  have hL : rsL s[k] = [.string g, .int .i64 a0, .int .i64 a1, .int .i64 a2, .int .i64 a3, .int .i64 a4, .int .i64 a5, .int .i64 a6, .int .i64 a7, .int .i64 a8, .int .i64 a9, .int .i64 a10] := by
    unfold rsL
    rw [he, e11]
    rfl
  rw [hL] at hr
  rw [e11]
  have o1 := Ob.new w 78 #[.string ⟨#[]⟩, .int .i64 0, .int .i64 0, .int .i64 0, .int .i64 0, .int .i64 0, .int .i64 0, .int .i64 0, .int .i64 0, .int .i64 0, .int .i64 0, .int .i64 0]
  have CF := Lib.hid cF
  have hd : decide ((k : Int) ≥ 0) = true := by simp
  clear cF hf hL e11 he hR hO h1
  go_enter Try.func35, Try.ntmps35
  go_wp2_with fail
  refine CF.out.mono ?_
  rintro e W ⟨rfl, rfl⟩
  go_wp2_with (first | (refine wpList_load_mid rfl 78 (.tmp 16) rfl gb (k * 12) rfl [.string g, .int .i64 a0, .int .i64 a1, .int .i64 a2, .int .i64 a3, .int .i64 a4, .int .i64 a5, .int .i64 a6, .int .i64 a7, .int .i64 a8, .int .i64 a9, .int .i64 a10] _ hr Try.underlying78 rfl (by kernel_rfl) ?_) | (refine wpList_store_ob rfl 78 (.tmp 4) (.tmp 17) rfl rfl rfl o1 rfl (by kernel_rfl) (by simp [Value.oneCell']) ?_; intro w4 hO hg))
  have hb := ha.grown hg ha.size (fun k e => by cases e; omega)
  refine bodyPost_ret (v := .agg #[.string g, .int .i64 a0, .int .i64 a1, .int .i64 a2, .int .i64 a3, .int .i64 a4, .int .i64 a5, .int .i64 a6, .int .i64 a7, .int .i64 a8, .int .i64 a9, .int .i64 a10]) ?_ rfl ⟨rfl, hb⟩
  have c0 := hO.cell (j := 0) (v := .string g) rfl
  have c1 := hO.cell (j := 1) (v := .int .i64 a0) rfl
  have c2 := hO.cell (j := 2) (v := .int .i64 a1) rfl
  have c3 := hO.cell (j := 3) (v := .int .i64 a2) rfl
  have c4 := hO.cell (j := 4) (v := .int .i64 a3) rfl
  have c5 := hO.cell (j := 5) (v := .int .i64 a4) rfl
  have c6 := hO.cell (j := 6) (v := .int .i64 a5) rfl
  have c7 := hO.cell (j := 7) (v := .int .i64 a6) rfl
  have c8 := hO.cell (j := 8) (v := .int .i64 a7) rfl
  have c9 := hO.cell (j := 9) (v := .int .i64 a8) rfl
  have c10 := hO.cell (j := 10) (v := .int .i64 a9) rfl
  have c11 := hO.cell (j := 11) (v := .int .i64 a10) rfl
  simp [results, Try.f35, go_sem, c0, c1, c2, c3, c4, c5, c6, c7, c8, c9, c10, c11]
theorem row_calls {w : World} {base x : Nat} {s : Stk} (h : RsAt w base x s) (g : ByteArray) :
    Calls Try.prog 35 #[.pointer (some ⟨x, 0, none⟩), .string g] w fun e w' => e = .returned (rsV g (rowG s g.data.toList)) ∧ Below w.heap.size w w' := by
  rcases findS_cases s g.data.toList with ⟨-, h1, h2⟩ | ⟨k, hk, -, he, h1, h2⟩
  · have e : rowG s g.data.toList = row0 := by unfold rowG; rw [h2]; rfl
    rw [e]
    exact row_none h g h1
  · have e : rowG s g.data.toList = s[k].2 := by unfold rowG; rw [h2]; rfl
    rw [e]
    exact row_some h g k hk h1 he
set_option maxRecDepth 100000 in
theorem sum_calls (a0 a1 a2 a3 : Int) (w : World) :
    Calls Try.prog 66 #[.agg #[.int .i64 a0, .int .i64 a1, .int .i64 a2, .int .i64 a3]] w fun e w' => e = .returned (.int .i64 (wrap64 (wrap64 (wrap64 (a0 + a1) + a2) + a3))) ∧ Below w.heap.size w w' := by
  have ha := (Below.refl w.heap.size w).alloc (Nat.le_refl _) (.cells #[.int .i64 a0, .int .i64 a1, .int .i64 a2, .int .i64 a3] 23)
  have o1 := Ob.new w 23 #[.int .i64 a0, .int .i64 a1, .int .i64 a2, .int .i64 a3]
  have c0 := o1.cell (j := 0) (v := .int .i64 a0) rfl
  have c1 := o1.cell (j := 1) (v := .int .i64 a1) rfl
  have c2 := o1.cell (j := 2) (v := .int .i64 a2) rfl
  have c3 := o1.cell (j := 3) (v := .int .i64 a3) rfl
  go_enter Try.func66, Try.ntmps66
  go_wp2
  go_ret
  exact ⟨rfl, ha⟩
def eachT (a0 a1 a2 a3 f0 f1 f3 f4 f5 f6 : Int) : Bool := [a0, a1, a2, a3].all countOk && [f0, f1, f3, f4, f5, f6].all flowOk
theorem take_all {p : Int → Bool} {l : List Int} {k : Nat} (hk : k < l.length) (h : (l.take k).all p = true) (h2 : p (l.getD k 0) = true) : (l.take (k + 1)).all p = true := by
  rw [List.take_succ_eq_append_getElem hk, List.all_append, h]
  rw [List.getD_eq_getElem?_getD, List.getElem?_eq_getElem hk] at h2
  simpa using h2
theorem take_not {p : Int → Bool} {l : List Int} {k : Nat} (hk : k < l.length) (h2 : p (l.getD k 0) = false) : l.all p = false := by
  rw [List.getD_eq_getElem?_getD, List.getElem?_eq_getElem hk] at h2
  rw [List.all_eq_false]
  exact ⟨l[k], List.getElem_mem hk, by simpa using h2⟩
set_option maxRecDepth 100000 in
set_option maxHeartbeats 8000000 in
theorem reach_calls (a0 a1 a2 a3 f0 f1 f2 f3 f4 f5 f6 : Int) (w : World) :
    Calls Try.prog 65 #[.agg #[.int .i64 a0, .int .i64 a1, .int .i64 a2, .int .i64 a3], .agg #[.int .i64 f0, .int .i64 f1, .int .i64 f2, .int .i64 f3, .int .i64 f4, .int .i64 f5, .int .i64 f6]] w fun e w' => e = .returned (.bool (eachT a0 a1 a2 a3 f0 f1 f3 f4 f5 f6)) ∧ Below w.heap.size w w' := by
  have HE := Lib.hid (show eachT a0 a1 a2 a3 f0 f1 f3 f4 f5 f6 = ([a0, a1, a2, a3].all countOk && [f0, f1, f3, f4, f5, f6].all flowOk) from rfl)
  have hB := ((Below.refl w.heap.size w).alloc (Nat.le_refl _) (.cells #[.int .i64 a0, .int .i64 a1, .int .i64 a2, .int .i64 a3] 23)).alloc (by simp) (.cells #[.int .i64 f0, .int .i64 f1, .int .i64 f2, .int .i64 f3, .int .i64 f4, .int .i64 f5, .int .i64 f6] 25)
  have o1 := (Ob.new w 23 #[.int .i64 a0, .int .i64 a1, .int .i64 a2, .int .i64 a3]).alloc (.cells #[.int .i64 f0, .int .i64 f1, .int .i64 f2, .int .i64 f3, .int .i64 f4, .int .i64 f5, .int .i64 f6] 25)
  have o2 := Ob.new (w.alloc (.cells #[.int .i64 a0, .int .i64 a1, .int .i64 a2, .int .i64 a3] 23)) 25 #[.int .i64 f0, .int .i64 f1, .int .i64 f2, .int .i64 f3, .int .i64 f4, .int .i64 f5, .int .i64 f6]
  rw [World.size_alloc] at o2
  have hs : ((w.alloc (.cells #[.int .i64 a0, .int .i64 a1, .int .i64 a2, .int .i64 a3] 23)).alloc (.cells #[.int .i64 f0, .int .i64 f1, .int .i64 f2, .int .i64 f3, .int .i64 f4, .int .i64 f5, .int .i64 f6] 25)).heap.size = w.heap.size + 2 := by simp
  have hcc := refcount_calls
  have cC := Lib.hid hcc
  clear hcc
  generalize eachT a0 a1 a2 a3 f0 f1 f3 f4 f5 f6 = E at *
  go_enter Try.func65, Try.ntmps65
  go_upto_region 1 with (fail)
  generalize (w.alloc (.cells #[.int .i64 a0, .int .i64 a1, .int .i64 a2, .int .i64 a3] 23)).alloc (.cells #[.int .i64 f0, .int .i64 f1, .int .i64 f2, .int .i64 f3, .int .i64 f4, .int .i64 f5, .int .i64 f6] 25) = w1 at *
  have c0 := o1.cell (j := 0) (v := .int .i64 a0) rfl
  have c1 := o1.cell (j := 1) (v := .int .i64 a1) rfl
  have c2 := o1.cell (j := 2) (v := .int .i64 a2) rfl
  have c3 := o1.cell (j := 3) (v := .int .i64 a3) rfl
  go_upto_region 2 with (fail)
  clear c0 c1 c2 c3
  have hI := Sl.new w1 #[.int .i64 a0, .int .i64 a1, .int .i64 a2, .int .i64 a3] 3 (size := 1) (n := 4) rfl (by unfold maxLen; omega)
  rw [hs] at hI
  have hII : IntsAt (w1.alloc (.cells #[.int .i64 a0, .int .i64 a1, .int .i64 a2, .int .i64 a3] 3)) (w.heap.size + 2) (w.heap.size + 2 + 1) (.slice (some ⟨w.heap.size + 2, 0, none⟩) 4 4) [a0, a1, a2, a3] := hI
  have hB2 : Below w.heap.size w (w1.alloc (.cells #[.int .i64 a0, .int .i64 a1, .int .i64 a2, .int .i64 a3] 3)) := hB.alloc hB.size _
  have p2 := o2.alloc (.cells #[.int .i64 a0, .int .i64 a1, .int .i64 a2, .int .i64 a3] 3)
  have hs2 : (w1.alloc (.cells #[.int .i64 a0, .int .i64 a1, .int .i64 a2, .int .i64 a3] 3)).heap.size = w.heap.size + 3 := by simp [hs]
  clear hI hB o1 o2
  generalize w1.alloc (.cells #[.int .i64 a0, .int .i64 a1, .int .i64 a2, .int .i64 a3] 3) = w2 at *
  have HS := Lib.hid hs2
  clear hs hs2
  obtain ⟨La, hLa⟩ : ∃ l, l = [a0, a1, a2, a3] := ⟨_, rfl⟩
  have hlen : La.length = 4 := by rw [hLa]; rfl
  rw [← hLa] at hII
  have HE2 := Lib.hid (show E = (La.all countOk && [f0, f1, f3, f4, f5, f6].all flowOk) by rw [HE.out, hLa])
  have HN := Lib.hid hlen
  clear hLa hlen HE
  go_wp2
  go_loop [6] (fun i => ∃ k : Nat, k ≤ 4 ∧ i = .int .i64 k ∧ (La.take k).all countOk = true) (fun i => 4 - (intOf i).toNat)
  case atStart => exact ⟨0, by omega, rfl, rfl⟩
  case round =>
    obtain ⟨k, hk, rfl, hN⟩ := hrel
    have HIN := Lib.hid hN
    clear hN
    by_cases hlt : k < 4
    · obtain ⟨b, o, e1, -, -, hcell⟩ := hII.cellAt (j := k) (by have := HN.out; omega)
      cases e1
      rw [Nat.zero_add] at hcell
      have HT := Lib.hid (take_all (p := countOk) (l := La) (k := k) (by have := HN.out; omega) HIN.out)
      have HF := Lib.hid (take_not (p := countOk) (l := La) (k := k) (by have := HN.out; omega))
      generalize La.getD k 0 = x at hcell HT HF
      have hd : decide ((k : Int) < 4) = true := by simpa using (by omega : (k : Int) < 4)
      go_wp2_with fail
      refine (cC.out x _).mono ?_
      rintro e W ⟨rfl, rfl⟩
      cases hc : countOk x with
      | true =>
        have HX := Lib.hid (HT.out hc)
        clear HT HF hc
        go_wp2
        go_round
        case rel => exact ⟨k + 1, by omega, by go_num, HX.out⟩
        case measure => simp [intOf]; omega
      | false =>
        have HX := Lib.hid (show E = false by rw [HE2.out, HF.out hc]; rfl)
        clear HT HF hc
        go_wp2
        go_ret
        exact ⟨ret1 (boo HX.out.symm), hB2⟩
    · obtain rfl : k = 4 := by omega
      have HA := Lib.hid (show E = [f0, f1, f3, f4, f5, f6].all flowOk by rw [HE2.out]; have h := HIN.out; rw [List.take_of_length_le (by have := HN.out; omega)] at h; rw [h]; rfl)
      clear HIN HE2 hII HN hk hlt
      have c0 := p2.cell (j := 0) (v := .int .i64 f0) rfl
      have c1 := p2.cell (j := 1) (v := .int .i64 f1) rfl
      have c3 := p2.cell (j := 3) (v := .int .i64 f3) rfl
      have c4 := p2.cell (j := 4) (v := .int .i64 f4) rfl
      have c5 := p2.cell (j := 5) (v := .int .i64 f5) rfl
      have c6 := p2.cell (j := 6) (v := .int .i64 f6) rfl
      go_upto_region 8 with (fail)
      have hI := Sl.new w2 #[.int .i64 f0, .int .i64 f1, .int .i64 f3, .int .i64 f4, .int .i64 f5, .int .i64 f6] 3 (size := 1) (n := 6) rfl (by unfold maxLen; omega)
      rw [HS.out] at hI
      have hII : IntsAt (w2.alloc (.cells #[.int .i64 f0, .int .i64 f1, .int .i64 f3, .int .i64 f4, .int .i64 f5, .int .i64 f6] 3)) (w.heap.size + 3) (w.heap.size + 3 + 1) (.slice (some ⟨w.heap.size + 3, 0, none⟩) 6 6) [f0, f1, f3, f4, f5, f6] := hI
      have hB3 : Below w.heap.size w (w2.alloc (.cells #[.int .i64 f0, .int .i64 f1, .int .i64 f3, .int .i64 f4, .int .i64 f5, .int .i64 f6] 3)) := hB2.alloc hB2.size _
      rw [← HS.out] at hII
      clear hI c0 c1 c3 c4 c5 c6 p2 hB2 HS
      generalize w2.alloc (.cells #[.int .i64 f0, .int .i64 f1, .int .i64 f3, .int .i64 f4, .int .i64 f5, .int .i64 f6] 3) = w3 at *
      obtain ⟨La, hLa⟩ : ∃ l, l = [f0, f1, f3, f4, f5, f6] := ⟨_, rfl⟩
      have hlen : La.length = 6 := by rw [hLa]; rfl
      rw [← hLa] at hII
      have HE2 := Lib.hid (show E = La.all flowOk by rw [HA.out, hLa])
      have HN := Lib.hid hlen
      clear hLa hlen HA
      go_wp2
      go_loop [8] (fun i => ∃ k : Nat, k ≤ 6 ∧ i = .int .i64 k ∧ (La.take k).all flowOk = true) (fun i => 6 - (intOf i).toNat)
      case atStart => exact ⟨0, by omega, rfl, rfl⟩
      case round =>
        obtain ⟨k, hk, rfl, hN⟩ := hrel
        have HIN := Lib.hid hN
        clear hN
        by_cases hlt : k < 6
        · obtain ⟨b, o, e1, -, -, hcell⟩ := hII.cellAt (j := k) (by have := HN.out; omega)
          cases e1
          rw [Nat.zero_add] at hcell
          have HT := Lib.hid (take_all (p := flowOk) (l := La) (k := k) (by have := HN.out; omega) HIN.out)
          have HF := Lib.hid (take_not (p := flowOk) (l := La) (k := k) (by have := HN.out; omega))
          generalize La.getD k 0 = x at hcell HT HF
          have hd : decide ((k : Int) < 6) = true := by simpa using (by omega : (k : Int) < 6)
          by_cases h1 : x < 0
          · have d1 : decide (x < 0) = true := by simpa using h1
            have HX := Lib.hid (show E = false by rw [HE2.out, HF.out (flowOk_no (.inl h1))])
            clear HT HF h1
            go_wp2
            go_ret
            exact ⟨ret1 (boo HX.out.symm), hB3⟩
          · have d1 : decide (x < 0) = false := by simpa using h1
            by_cases h2 : 72057594037927936 < x
            · have d2 : decide (x > 72057594037927936) = true := by simpa using h2
              have HX := Lib.hid (show E = false by rw [HE2.out, HF.out (flowOk_no (.inr h2))])
              clear HT HF h1 h2
              go_wp2
              go_ret
              exact ⟨ret1 (boo HX.out.symm), hB3⟩
            · have d2 : decide (x > 72057594037927936) = false := by simpa using h2
              have HX := Lib.hid (HT.out (flowOk_yes (by omega) (by omega)))
              clear HT HF h1 h2
              go_wp2
              go_round
              case rel => exact ⟨k + 1, by omega, by go_num, HX.out⟩
              case measure => simp [intOf]; omega
        · obtain rfl : k = 6 := by omega
          have HX := Lib.hid (show E = true by rw [HE2.out]; have h := HIN.out; rw [List.take_of_length_le (by have := HN.out; omega)] at h; exact h)
          go_wp2
          go_ret
          exact ⟨ret1 (boo HX.out.symm), hB3⟩
theorem each_eq (a0 a1 a2 a3 f0 f1 f2 f3 f4 f5 f6 : Int) : eachT a0 a1 a2 a3 f0 f1 f3 f4 f5 f6 = eachR [a0, a1, a2, a3, f0, f1, f2, f3, f4, f5, f6] := by
  unfold eachT eachR
  rw [Bool.eq_iff_iff]
  simp only [List.all_cons, List.all_nil, Bool.and_eq_true, Bool.and_true, List.all_eq_true, List.mem_range]
  constructor
  · rintro ⟨⟨h0, h1, h2, h3⟩, g0, g1, g3, g4, g5, g6⟩ j hj
    have : j = 0 ∨ j = 1 ∨ j = 2 ∨ j = 3 ∨ j = 4 ∨ j = 5 ∨ j = 6 ∨ j = 7 ∨ j = 8 ∨ j = 9 ∨ j = 10 := by omega
    rcases this with rfl | rfl | rfl | rfl | rfl | rfl | rfl | rfl | rfl | rfl | rfl <;> first | assumption | rfl
  · intro h
    exact ⟨⟨h 0 (by omega), h 1 (by omega), h 2 (by omega), h 3 (by omega)⟩, h 4 (by omega), h 5 (by omega), h 7 (by omega), h 8 (by omega), h 9 (by omega), h 10 (by omega)⟩
set_option maxRecDepth 100000 in
set_option maxHeartbeats 8000000 in
theorem rright_calls (g : ByteArray) (a0 a1 a2 a3 f0 f1 f2 f3 f4 f5 f6 : Int) (w : World) :
    Calls Try.prog 53 #[.agg #[.string g, .int .i64 a0, .int .i64 a1, .int .i64 a2, .int .i64 a3, .int .i64 f0, .int .i64 f1, .int .i64 f2, .int .i64 f3, .int .i64 f4, .int .i64 f5, .int .i64 f6]] w fun e w' => e = .returned (.bool (rightR [a0, a1, a2, a3, f0, f1, f2, f3, f4, f5, f6])) ∧ Below w.heap.size w w' := by
  have HR := Lib.hid (show rightR [a0, a1, a2, a3, f0, f1, f2, f3, f4, f5, f6] = (eachT a0 a1 a2 a3 f0 f1 f3 f4 f5 f6 && countOk (a0 + a1 + a2 + a3)) by unfold rightR; rw [each_eq (f2 := f2)]; rfl)
  have HW := Lib.hid (fun (h : eachT a0 a1 a2 a3 f0 f1 f3 f4 f5 f6 = true) => show wrap64 (wrap64 (wrap64 (a0 + a1) + a2) + a3) = a0 + a1 + a2 + a3 by
    rw [each_eq (f2 := f2)] at h
    have h0 := eachR_four h (show 0 < 4 by omega)
    have h1 := eachR_four h (show 1 < 4 by omega)
    have h2 := eachR_four h (show 2 < 4 by omega)
    have h3 := eachR_four h (show 3 < 4 by omega)
    simp only [at_, List.getD_cons_zero, List.getD_cons_succ] at h0 h1 h2 h3
    unfold wrap64
    omega)
  have cE := Lib.hid (reach_calls a0 a1 a2 a3 f0 f1 f2 f3 f4 f5 f6)
  have cS := Lib.hid (sum_calls a0 a1 a2 a3)
  have cC := Lib.hid refcount_calls
  have ha := (Below.refl w.heap.size w).alloc (Nat.le_refl _) (.cells #[.string g, .int .i64 a0, .int .i64 a1, .int .i64 a2, .int .i64 a3, .int .i64 f0, .int .i64 f1, .int .i64 f2, .int .i64 f3, .int .i64 f4, .int .i64 f5, .int .i64 f6] 78)
  have o1 := Ob.new w 78 #[.string g, .int .i64 a0, .int .i64 a1, .int .i64 a2, .int .i64 a3, .int .i64 f0, .int .i64 f1, .int .i64 f2, .int .i64 f3, .int .i64 f4, .int .i64 f5, .int .i64 f6]
  have c0 := o1.cell (j := 0) (v := .string g) rfl
  have c1 := o1.cell (j := 1) (v := .int .i64 a0) rfl
  have c2 := o1.cell (j := 2) (v := .int .i64 a1) rfl
  have c3 := o1.cell (j := 3) (v := .int .i64 a2) rfl
  have c4 := o1.cell (j := 4) (v := .int .i64 a3) rfl
  have c5 := o1.cell (j := 5) (v := .int .i64 f0) rfl
  have c6 := o1.cell (j := 6) (v := .int .i64 f1) rfl
  have c7 := o1.cell (j := 7) (v := .int .i64 f2) rfl
  have c8 := o1.cell (j := 8) (v := .int .i64 f3) rfl
  have c9 := o1.cell (j := 9) (v := .int .i64 f4) rfl
  have c10 := o1.cell (j := 10) (v := .int .i64 f5) rfl
  have c11 := o1.cell (j := 11) (v := .int .i64 f6) rfl
  generalize eachT a0 a1 a2 a3 f0 f1 f3 f4 f5 f6 = et at *
  generalize rightR [a0, a1, a2, a3, f0, f1, f2, f3, f4, f5, f6] = rt at *
  go_enter Try.func53, Try.ntmps53
  go_wp2_with fail
  refine (cE.out _).mono ?_
  rintro e W ⟨rfl, hb⟩
  have hB1 := ha.trans (hb.mono ha.size)
  have p1 := o1.same hb
  clear c0 c1 c2 c3 c4 c5 c6 c7 c8 c9 c10 c11 o1 hb ha
  have c0 := p1.cell (j := 0) (v := .string g) rfl
  have c1 := p1.cell (j := 1) (v := .int .i64 a0) rfl
  have c2 := p1.cell (j := 2) (v := .int .i64 a1) rfl
  have c3 := p1.cell (j := 3) (v := .int .i64 a2) rfl
  have c4 := p1.cell (j := 4) (v := .int .i64 a3) rfl
  have c5 := p1.cell (j := 5) (v := .int .i64 f0) rfl
  have c6 := p1.cell (j := 6) (v := .int .i64 f1) rfl
  have c7 := p1.cell (j := 7) (v := .int .i64 f2) rfl
  have c8 := p1.cell (j := 8) (v := .int .i64 f3) rfl
  have c9 := p1.cell (j := 9) (v := .int .i64 f4) rfl
  have c10 := p1.cell (j := 10) (v := .int .i64 f5) rfl
  have c11 := p1.cell (j := 11) (v := .int .i64 f6) rfl
  cases et with
  | false =>
    have HX := Lib.hid (show rt = false by rw [HR.out]; rfl)
    clear HR HW
    go_wp2
    go_ret
    exact ⟨ret1 (boo HX.out.symm), hB1⟩
  | true =>
    have HX := Lib.hid (show rt = countOk (a0 + a1 + a2 + a3) by rw [HR.out]; rfl)
    have hw := HW.out rfl
    have cS2 := Lib.hid (hw ▸ cS.out)
    clear HR HW cS hw
    generalize a0 + a1 + a2 + a3 = sm at *
    go_wp2_with fail
    refine (cS2.out _).mono ?_
    rintro e W2 ⟨rfl, hb⟩
    have hB2 := hB1.trans (hb.mono hB1.size)
    clear c0 c1 c2 c3 c4 c5 c6 c7 c8 c9 c10 c11 p1 hb
    go_wp2_with fail
    refine (cC.out _ _).mono ?_
    rintro e W3 ⟨rfl, rfl⟩
    go_wp2
    go_ret
    exact ⟨ret1 (boo HX.out.symm), hB2⟩
end Sk
end Go.Proofs.Ytlhpdalfnjhokaa
