/-
  the document's stock: Do.
  the document's stock: Count.
-/
import Derived.Test.YtlhpdalfnjhokaaGs9
import Derived.Test.YtlhpdalfnjhokaaGs2
import Derived.Test.YtlhpdalfnjhokaaGs10
import Derived.Deep.DeepCutAuto
import Derived.Deep.CutBlock

set_option linter.unusedVariables false
set_option linter.unusedSimpArgs false
set_option linter.unusedSimpArgs false
namespace Go.Proofs.Ytlhpdalfnjhokaa
open Go.RowKit Go.Maps
namespace Sk
open It Al Kp
attribute [local go_sem] Oper.semAt_some
theorem rhas_snoc (s : Stk) (l : List It.Item) (x : It.Item) : rhas s (l ++ [x]) = (rhas s l && !decide (findS s (key x) < 0)) := by simp [rhas]
theorem rless_snoc (s : Stk) (k : Int) (l : List It.Item) (x : It.Item) : rless s k (l ++ [x]) = (rless s k l && !decide (haveR k (rowG s (key x)) < x.2)) := by simp [rless]
theorem rhas_no {s : Stk} {p l : List It.Item} (h : p <+: l) (hp : rhas s p = false) : rhas s l = false := by
  obtain ⟨r, rfl⟩ := h
  unfold rhas at *
  rw [List.all_append, hp]
  rfl
theorem rless_no {s : Stk} {k : Int} {p l : List It.Item} (h : p <+: l) (hp : rless s k p = false) : rless s k l = false := by
  obtain ⟨r, rfl⟩ := h
  unfold rless at *
  rw [List.all_append, hp]
  rfl
theorem RsAt.row {w : World} {base x : Nat} {s : Stk} (h : RsAt w base x s) (g : Key) : OkRow (rowG s g) := by
  obtain ⟨v, -, h2⟩ := h.ob
  exact get_row h2.ok g
theorem qs_size (g : ByteArray) {r : Row} (h : OkRow r) : ((.string g :: r.map (Value.int .i64)).toArray : Array Value).size = (#[.string ⟨#[]⟩, .int .i64 0, .int .i64 0, .int .i64 0, .int .i64 0, .int .i64 0, .int .i64 0, .int .i64 0, .int .i64 0, .int .i64 0, .int .i64 0, .int .i64 0] : Array Value).size := by simp [h.len]
theorem qs_one (g : ByteArray) (r : Row) : ((.string g :: r.map (Value.int .i64)).toArray : Array Value).all (·.oneCell') = true := by simp [Value.oneCell']
theorem row78_size0 : (Try.prog.info? 78).map (·.size) = some 12 := by kernel_rfl
theorem rright_any (g : ByteArray) {r : Row} (hr : OkRow r) (w : World) :
    Calls Try.prog 53 #[.agg (.string g :: r.map (Value.int .i64)).toArray] w fun e w' => e = .returned (.bool (rightR r)) ∧ Below w.heap.size w w' := by
  obtain ⟨a0, a1, a2, a3, a4, a5, a6, a7, a8, a9, a10, rfl⟩ := row_eleven hr
  exact rright_calls g a0 a1 a2 a3 a4 a5 a6 a7 a8 a9 a10 w
theorem setStep_len (g : Key) (r : Row) (o : Stk × Bool) (q : Key × Row) : (setStep g r o q).1.length + (if (setStep g r o q).2 then 0 else 1) ≤ o.1.length + (if o.2 then 0 else 1) + 1 := by
  obtain ⟨l, d⟩ := o
  unfold setStep
  dsimp only
  cases d <;> cases Op.bytesLess q.1 g <;> (by_cases h : q.1 = g <;> simp [h])
theorem setP_len (g : Key) (r : Row) : ∀ (s : Stk) (o : Stk × Bool), (s.foldl (setStep g r) o).1.length + (if (s.foldl (setStep g r) o).2 then 0 else 1) ≤ o.1.length + (if o.2 then 0 else 1) + s.length
  | [], o => Nat.le_refl _
  | q :: t, o => by
    have h1 := setStep_len g r o q
    have h2 := setP_len g r t (setStep g r o q)
    rw [List.foldl_cons, List.length_cons]
    omega
theorem setS_len (s : Stk) (g : Key) (r : Row) : (setS s g r).length ≤ s.length + 1 := by
  have h := setP_len g r s ([], false)
  unfold setS setP
  cases hd : (s.foldl (setStep g r) ([], false)).2 <;> (rw [hd] at h; simp at h ⊢; omega)
def rdoT (s : Stk) (k : Int) (l : List It.Item) : Stk × Int := match rgo k s l with
  | none => (s, 50)
  | some s' => if 64 < s'.length then (s, 2) else (s', 0)
set_option maxRecDepth 100000 in
set_option maxHeartbeats 16000000 in
theorem rdo_calls {w : World} {base x : Nat} {s : Stk} (h : RsAt w base x s) (hbase : base ≤ w.heap.size) (hlen : s.length ≤ 100000) (k : Int) (L : List It.Item) (v : Value) (hI : ItemsAt w 0 w.heap.size v L) (hF : Fits L) :
    Calls Try.prog 34 #[.pointer (some ⟨x, 0, none⟩), .int .i64 k, v] w fun e w' => e = .returned (.int .i64 (rdoS s k L).2) ∧ RsAt w' base x (rdoS s k L).1 ∧ StKept x w w' := by
  have hmx := hmx
  obtain ⟨A, c, rfl, hc1, hc2⟩ := hI.form
  unfold maxLen at hc2
  have cM := Lib.hid (refmay_calls L _ w hI hF)
  by_cases hk : k < 1 ∨ 11 < k
  · have HX := Lib.hid (show rdoS s k L = (s, 1) by unfold rdoS; rw [if_pos hk])
    rw [HX.out]
    by_cases h1 : k < 1
    · have d1 : decide (k < 1) = true := by simpa using h1
      go_enter Try.func34, Try.ntmps34
      go_wp2
      go_ret
      exact ⟨rfl, h, Kept.refl _ _⟩
    · have d1 : decide (k < 1) = false := by simpa using h1
      have d2 : decide (k > 11) = true := by simp; omega
      go_enter Try.func34, Try.ntmps34
      go_wp2
      go_ret
      exact ⟨rfl, h, Kept.refl _ _⟩
  have d1 : decide (k < 1) = false := by simp; omega
  have d2 : decide (k > 11) = false := by simp; omega
  cases hm : It.may L with
  | false =>
    have HX := Lib.hid (show rdoS s k L = (s, 60) by unfold rdoS; rw [if_neg hk, if_pos hm])
    rw [HX.out]
    rw [hm] at cM
    go_enter Try.func34, Try.ntmps34
    go_wp2_with fail
    refine cM.out.mono ?_
    rintro e W ⟨rfl, hb⟩
    go_wp2
    go_ret
    exact ⟨rfl, h.same hb, Kept.of_below hb fun i hi => hi.1⟩
  | true =>
    rw [hm] at cM
    have hM := (may_iff L).1 hm
    have hL16 := hM.len
    have HX := Lib.hid (show rdoS s k L = if (takesK k && !rhas s L) = true then (s, 71) else if (takesK k && !rless s k L) = true then (s, 51) else rdoT s k L by unfold rdoS; rw [if_neg hk, if_neg (by rw [hm]; simp)]; rfl)
    have HT := Lib.hid (show takesK k = (k != 1 && k != 7 && k != 11) from rfl)
    have HK := Lib.hid hk
    have HM := Lib.hid hm
    clear hm hk hM
    generalize htk : takesK k = tk at *
    clear htk
    go_enter Try.func34, Try.ntmps34
    go_wp2_with fail
    refine cM.out.mono ?_
    rintro e W ⟨rfl, hb⟩
    have hR1 := h.same hb
    have hI1 := ItemsAt.mono hI hb hb.size
    have hB1 := Lib.hid hb
    have HI := Lib.hid hI
    have HH := Lib.hid h
    clear cM hb h hI
    go_upto_region 5 with (fail)
    go_cut [7] (fun s7 V => V = W ∧ s7 = .bool tk)
    case first =>
      have hc : (k = 1 ∧ tk = false) ∨ (k ≠ 1 ∧ k = 7 ∧ tk = false) ∨ (k ≠ 1 ∧ k ≠ 7 ∧ k = 11 ∧ tk = false) ∨ (k ≠ 1 ∧ k ≠ 7 ∧ k ≠ 11 ∧ tk = true) := by
        rw [HT.out]
        by_cases e1 : k = 1
        · exact .inl ⟨e1, by simp [e1]⟩
        · by_cases e2 : k = 7
          · exact .inr (.inl ⟨e1, e2, by simp [e2]⟩)
          · by_cases e3 : k = 11
            · exact .inr (.inr (.inl ⟨e1, e2, e3, by simp [e3]⟩))
            · exact .inr (.inr (.inr ⟨e1, e2, e3, by simp [e1, e2, e3]⟩))
      rcases hc with ⟨rfl, rfl⟩ | ⟨-, rfl, rfl⟩ | ⟨-, -, rfl, rfl⟩ | ⟨e1, e2, e3, rfl⟩
      · go_wp2
        go_meet
        exact ⟨rfl, rfl⟩
      · go_wp2
        go_meet
        exact ⟨rfl, rfl⟩
      · go_wp2
        go_meet
        exact ⟨rfl, rfl⟩
      · have f1 : (k != 1) = true := by simpa using e1
        have f2 : (k != 7) = true := by simpa using e2
        have f3 : (k != 11) = true := by simpa using e3
        clear e1 e2 e3
        go_wp2
        go_meet
        exact ⟨rfl, rfl⟩
    case rest =>
      obtain ⟨rfl, rfl⟩ := hcut
      go_wp2
      go_loop [8] (fun i => ∃ j : Nat, j ≤ L.length ∧ i = .int .i64 j ∧ (tk && !rhas s (L.take j)) = false) (fun i => L.length - (intOf i).toNat)
      case atStart => exact ⟨0, by omega, rfl, by cases tk <;> rfl⟩
      case round =>
        obtain ⟨j, hj, rfl, hN⟩ := hrel
        have HN := Lib.hid hN
        clear hN
        by_cases hlt : j < L.length
        · obtain ⟨b, o, rfl, -, hb, g1, g2⟩ := hI1.cellAt hlt
          have hd : decide ((j : Int) < (L.length : Int)) = true := by simp; omega
          have HSN := Lib.hid (show rhas s (L.take (j + 1)) = (rhas s (L.take j) && !decide (findS s (key L[j]) < 0)) by rw [List.take_succ_eq_append_getElem hlt, rhas_snoc])
          generalize L[j] = it at *
          obtain ⟨xs, xn⟩ := it
          dsimp only at g1 g2
          have HKY := Lib.hid (show key (xs, xn) = xs.data.toList from rfl)
          cases tk with
          | false =>
            go_wp2
            go_round
            case rel => exact ⟨j + 1, by omega, by go_num, rfl⟩
            case measure => simp [intOf]; omega
          | true =>
            have cF := find_calls hR1 xs
            rw [← HKY.out] at cF
            generalize findS s (key (xs, xn)) = f at *
            go_wp2_with fail
            refine cF.mono ?_
            rintro e W2 ⟨rfl, rfl⟩
            by_cases hf : f < 0
            · have df : decide (f < 0) = true := by simpa using hf
              have HNO := Lib.hid (show rhas s L = false from rhas_no (List.take_prefix (j + 1) L) (by rw [HSN.out, df]; simp))
              clear hf
              go_wp2
              go_ret
              rw [HX.out, HNO.out]
              exact ⟨rfl, hR1, Kept.of_below hB1.out fun i hi => hi.1⟩
            · have df : decide (f < 0) = false := by simpa using hf
              have HYES := Lib.hid (show (true && !rhas s (L.take (j + 1))) = false by rw [HSN.out, df]; have h := HN.out; revert h; cases rhas s (L.take j) <;> simp)
              clear hf
              go_wp2
              go_round
              case rel => exact ⟨j + 1, by omega, by go_num, HYES.out⟩
              case measure => simp [intOf]; omega
        · obtain rfl : j = L.length := by omega
          have HHA := Lib.hid (by have h := HN.out; rwa [List.take_length] at h)
          clear HN hlt hj
          go_wp2
          go_loopw [9] (fun i V => ∃ j : Nat, j ≤ L.length ∧ i = .int .i64 j ∧ (tk && !rless s k (L.take j)) = false ∧ Below wc.heap.size wc V) (fun i _ => L.length - (intOf i).toNat)
          case atStart => exact ⟨0, by omega, rfl, by cases tk <;> rfl, Below.refl _ _⟩
          case round =>
            obtain ⟨j, hj, rfl, hN, hBr⟩ := hrel
            have HN := Lib.hid hN
            have HBR := Lib.hid hBr
            clear hN hBr
            by_cases hlt : j < L.length
            · obtain ⟨b, o, rfl, -, hb, g1, g2⟩ := hI1.cellAt hlt
              have hd : decide ((j : Int) < (L.length : Int)) = true := by simp; omega
              have HSN := Lib.hid (show rless s k (L.take (j + 1)) = (rless s k (L.take j) && !decide (haveR k (rowG s (key L[j])) < L[j].2)) by rw [List.take_succ_eq_append_getElem hlt, rless_snoc])
              generalize L[j] = it at *
              obtain ⟨xs, xn⟩ := it
              dsimp only at g1 g2 HSN
              replace g1 := (HBR.out.cell (p := ⟨b, o + j * 2, none⟩) hb).trans g1
              replace g2 := (HBR.out.cell (p := ⟨b, o + j * 2 + 1, none⟩) hb).trans g2
              go_upto_region 14 with (fail)
              have hnx := hR1.row (key (xs, xn))
              have cR := Lib.hid (fun V (hb : Below wc.heap.size wc V) => row_calls (hR1.same hb) xs)
              have hky : key (xs, xn) = xs.data.toList := rfl
              rw [hky] at HSN hnx
              have cV := Lib.hid (fun V => move_calls k xs hnx xn V)
              have HQS := Lib.hid (qs_size xs (hnx.step k xn))
              have HQ1 := Lib.hid (qs_one xs (stepR k (rowG s xs.data.toList) xn))
              clear hky hnx
              generalize stepR k (rowG s xs.data.toList) xn = qq at *
              generalize haveR k (rowG s xs.data.toList) = hv at *
              generalize rowG s xs.data.toList = rr at *
              have hb0 : Below wc.heap.size wc wr.drew := HBR.out.drew
              have y1 : wr.drew.cell? ⟨b, o + j * 2, none⟩ = some (.string xs) := g1
              have y2 : wr.drew.cell? ⟨b, o + j * 2 + 1, none⟩ = some (.int .i64 xn) := g2
              have hbr : b < wr.drew.heap.size := by have := HBR.out.size; show b < wr.heap.size; omega
              have KC := Lib.hid (fun (A : World) (V : World) (h : Below A.heap.size A V) (hb : b < A.heap.size) (c1 : A.cell? ⟨b, o + j * 2, none⟩ = some (.string xs)) (c2 : A.cell? ⟨b, o + j * 2 + 1, none⟩ = some (.int .i64 xn)) => And.intro ((h.cell (p := ⟨b, o + j * 2, none⟩) hb).trans c1) ((h.cell (p := ⟨b, o + j * 2 + 1, none⟩) hb).trans c2))
              refine Pt.regionT (.look 0 (.look 1 (.look 2 (.look 3 (.look 4 (.look 5 (.look 6 (.look 8 (.look 9 (.look 10 (.look 11 (.look 12 (.fork 7 (.fork 13 (.look 14 (.look 15 (.look 16 (.make 17 (.make 18 (.look 19 .nil)))))) 17 (.make 13 (.look 14 (.look 15 (.look 16 (.make 18 (.look 19 .nil))))))) 17 (.make 7 (.make 13 (.look 14 (.look 15 (.look 16 (.make 18 (.look 19 .nil)))))))))))))))))))) (fun V => V.cell? ⟨b, o + j * 2, none⟩ = some (.string xs) ∧ V.cell? ⟨b, o + j * 2 + 1, none⟩ = some (.int .i64 xn)) hmx (by kernel_rfl) (by kernel_rfl) (by kernel_rfl) ⟨y1, y2⟩ rfl ?_
              simp only [Pt.named, List.getElem?_toArray, List.getElem?_cons_succ, List.getElem?_cons_zero, Option.map_some]
              iterate 12 (first
                | (apply Pt.WalkT.on (by rfl)
                   · rintro V ⟨y1, y2⟩
                     go_wp2_with fail
                     refine ⟨rfl, ?_, rfl⟩
                     try simp only [Act.put, List.setIfInBounds_toArray, List.set_cons_succ, List.set_cons_zero]
                     rfl
                   simp only [Act.put, List.setIfInBounds_toArray, List.set_cons_succ, List.set_cons_zero]))
              have hbl : b < wc.heap.size := hb
              generalize wr.drew = W0 at *
              clear g1 g2
              refine Pt.WalkT.fork (by rfl) (by rfl) ?_ ?_
              · intro V hV
                rw [hV]
                clear hV V
                go_wp2_with (go_at_call 35; refine (cR.out W0 hb0).mono ?_; rintro e W1 ⟨rfl, hbx⟩)
                have hb1 := hb0.trans (hbx.mono hb0.size)
                obtain ⟨z1, z2⟩ := KC.out _ _ hbx hbr y1 y2
                replace hbr : b < W1.heap.size := by have := hbx.size; omega
                clear hbx y1 y2
                have y1 := z1
                have y2 := z2
                clear z1 z2
                refine ⟨rfl, _, _, (fun V => V = W1), rfl, rfl, (fun V h => by rw [h]; exact ⟨y1, y2⟩), (.inr (fun _ h => h)), ?_⟩
                simp only [Act.put, List.setIfInBounds_toArray, List.set_cons_succ, List.set_cons_zero]
                refine Pt.WalkT.fork (by rfl) (by rfl) ?_ ?_
                · intro V hV
                  rw [hV]
                  clear hV V
                  go_wp2_with (go_at_call 56; refine (cV.out W1).mono ?_; rintro e W2 ⟨rfl, hbx⟩)
                  have hb2 := hb1.trans (hbx.mono hb1.size)
                  obtain ⟨z1, z2⟩ := KC.out _ _ hbx hbr y1 y2
                  replace hbr : b < W2.heap.size := by have := hbx.size; omega
                  clear hbx y1 y2
                  have y1 := z1
                  have y2 := z2
                  clear z1 z2
                  refine ⟨rfl, _, _, (fun V => V = W2), rfl, rfl, (fun V h => by rw [h]; exact ⟨y1, y2⟩), (.inr (fun _ h => h)), ?_⟩
                  simp only [Act.put, List.setIfInBounds_toArray, List.set_cons_succ, List.set_cons_zero]
                  iterate 3 (first
                    | (apply Pt.WalkT.on (by rfl)
                       · rintro V ⟨y1, y2⟩
                         go_wp2_with fail
                         refine ⟨rfl, ?_, rfl⟩
                         try simp only [Act.put, List.setIfInBounds_toArray, List.set_cons_succ, List.set_cons_zero]
                         rfl
                       simp only [Act.put, List.setIfInBounds_toArray, List.set_cons_succ, List.set_cons_zero]))
                  refine Pt.WalkT.make (by rfl) ?_
                  intro V hV
                  rw [hV]
                  clear hV V
                  go_wp2_with fail
                  have oz := Ob.new W2 78 #[.string ⟨#[]⟩, .int .i64 0, .int .i64 0, .int .i64 0, .int .i64 0, .int .i64 0, .int .i64 0, .int .i64 0, .int .i64 0, .int .i64 0, .int .i64 0, .int .i64 0]
                  have hbx := (Below.refl W2.heap.size W2).alloc (Nat.le_refl _) (.cells #[.string ⟨#[]⟩, .int .i64 0, .int .i64 0, .int .i64 0, .int .i64 0, .int .i64 0, .int .i64 0, .int .i64 0, .int .i64 0, .int .i64 0, .int .i64 0, .int .i64 0] 78)
                  have hb3 := hb2.trans (hbx.mono hb2.size)
                  obtain ⟨z1, z2⟩ := KC.out _ _ hbx hbr y1 y2
                  have hzl : wc.heap.size ≤ W2.heap.size := hb2.size
                  replace hbr : b < (W2.alloc (.cells #[.string ⟨#[]⟩, .int .i64 0, .int .i64 0, .int .i64 0, .int .i64 0, .int .i64 0, .int .i64 0, .int .i64 0, .int .i64 0, .int .i64 0, .int .i64 0, .int .i64 0] 78)).heap.size := by have := hbx.size; omega
                  clear hbx y1 y2
                  have y1 := z1
                  have y2 := z2
                  clear z1 z2
                  refine ⟨rfl, .pointer (some ⟨W2.heap.size, 0, none⟩), _, (fun V => V = W2.alloc (.cells #[.string ⟨#[]⟩, .int .i64 0, .int .i64 0, .int .i64 0, .int .i64 0, .int .i64 0, .int .i64 0, .int .i64 0, .int .i64 0, .int .i64 0, .int .i64 0, .int .i64 0] 78)), ?_, rfl, (fun V h => by rw [h]; exact ⟨y1, y2⟩), (.inr (fun _ h => h)), ?_⟩
                  · simp only [Act.put, List.setIfInBounds_toArray, List.set_cons_succ, List.set_cons_zero]
                  simp only [Act.put, List.setIfInBounds_toArray, List.set_cons_succ, List.set_cons_zero]
                  generalize W2.alloc (.cells #[.string ⟨#[]⟩, .int .i64 0, .int .i64 0, .int .i64 0, .int .i64 0, .int .i64 0, .int .i64 0, .int .i64 0, .int .i64 0, .int .i64 0, .int .i64 0, .int .i64 0] 78) = W3 at *
                  obtain ⟨zz, hzz⟩ : ∃ z, z = W2.heap.size := ⟨_, rfl⟩
                  rw [← hzz] at oz ⊢
                  replace hzl : wc.heap.size ≤ zz := by omega
                  clear hzz
                  refine Pt.WalkT.make (by rfl) ?_
                  intro V hV
                  rw [hV]
                  clear hV V
                  go_wp2_with (refine wpList_store_ob rfl 78 (.tmp 10) (.tmp 73) rfl (cells := (.string xs :: qq.map (Value.int .i64)).toArray) rfl rfl oz HQS.out (by rw [HQS.out]; exact row78_size0) HQ1.out ?_; intro W4 hO hg)
                  have hb4 := hb3.grown hg hb3.size (fun k e => by cases e; exact hzl)
                  have y3 := (hg.cell y2 (fun e => by have e2 : b = zz := Option.some.inj e; have := hbl; omega))
                  have y4 := (hg.cell y1 (fun e => by have e2 : b = zz := Option.some.inj e; have := hbl; omega))
                  clear y1 y2 oz hg
                  have y1 := y4
                  have y2 := y3
                  clear y3 y4
                  refine ⟨rfl, undef, _, (fun V => V = W4), rfl, rfl, (fun V h => by rw [h]; exact ⟨y1, y2⟩), (.inr (fun _ h => h)), ?_⟩
                  try simp only [Act.put, List.setIfInBounds_toArray, List.set_cons_succ, List.set_cons_zero]
                  iterate 1 (first
                    | (apply Pt.WalkT.on (by rfl)
                       · rintro V ⟨y1, y2⟩
                         go_wp2_with fail
                         refine ⟨rfl, ?_, rfl⟩
                         try simp only [Act.put, List.setIfInBounds_toArray, List.set_cons_succ, List.set_cons_zero]
                         rfl
                       simp only [Act.put, List.setIfInBounds_toArray, List.set_cons_succ, List.set_cons_zero]))
                  refine Pt.WalkT.nil ?_
                  intro V hV
                  rw [hV]
                  clear hV V
                  have HB4 := Lib.hid hb4
                  clear hb4 hO
                  cases tk with
                  | false =>
                    go_wp2
                    go_roundw
                    case rel => exact ⟨j + 1, by omega, by go_num, rfl, HB4.out⟩
                    case measure => simp [intOf]; omega
                  | true =>
                    by_cases hf : hv < xn
                    · have df : decide (hv < xn) = true := by simpa using hf
                      have HNO := Lib.hid (show rless s k L = false from rless_no (List.take_prefix (j + 1) L) (by rw [HSN.out, df]; simp))
                      clear hf
                      go_wp2
                      go_ret
                      have hfin : rdoS s k L = (s, 51) := by rw [HX.out, HHA.out, HNO.out]; rfl
                      rw [hfin]
                      exact ⟨rfl, hR1.same HB4.out, Kept.of_below (hB1.out.trans (HB4.out.mono hB1.out.size)) fun i hi => hi.1⟩
                    · have df : decide (hv < xn) = false := by simpa using hf
                      have HYES := Lib.hid (show (true && !rless s k (L.take (j + 1))) = false by rw [HSN.out, df]; have h := HN.out; revert h; cases rless s k (L.take j) <;> simp)
                      clear hf
                      go_wp2
                      go_roundw
                      case rel => exact ⟨j + 1, by omega, by go_num, HYES.out, HB4.out⟩
                      case measure => simp [intOf]; omega
                · intro V hV
                  rw [hV]
                  clear hV V
                  go_wp2_with fail
                  have oz := Ob.new W1 78 #[.string ⟨#[]⟩, .int .i64 0, .int .i64 0, .int .i64 0, .int .i64 0, .int .i64 0, .int .i64 0, .int .i64 0, .int .i64 0, .int .i64 0, .int .i64 0, .int .i64 0]
                  have hbx := (Below.refl W1.heap.size W1).alloc (Nat.le_refl _) (.cells #[.string ⟨#[]⟩, .int .i64 0, .int .i64 0, .int .i64 0, .int .i64 0, .int .i64 0, .int .i64 0, .int .i64 0, .int .i64 0, .int .i64 0, .int .i64 0, .int .i64 0] 78)
                  have hb2 := hb1.trans (hbx.mono hb1.size)
                  obtain ⟨z1, z2⟩ := KC.out _ _ hbx hbr y1 y2
                  have hzl : wc.heap.size ≤ W1.heap.size := hb1.size
                  replace hbr : b < (W1.alloc (.cells #[.string ⟨#[]⟩, .int .i64 0, .int .i64 0, .int .i64 0, .int .i64 0, .int .i64 0, .int .i64 0, .int .i64 0, .int .i64 0, .int .i64 0, .int .i64 0, .int .i64 0] 78)).heap.size := by have := hbx.size; omega
                  clear hbx y1 y2
                  have y1 := z1
                  have y2 := z2
                  clear z1 z2
                  refine ⟨rfl, .pointer (some ⟨W1.heap.size, 0, none⟩), _, (fun V => V = W1.alloc (.cells #[.string ⟨#[]⟩, .int .i64 0, .int .i64 0, .int .i64 0, .int .i64 0, .int .i64 0, .int .i64 0, .int .i64 0, .int .i64 0, .int .i64 0, .int .i64 0, .int .i64 0] 78)), ?_, rfl, (fun V h => by rw [h]; exact ⟨y1, y2⟩), (.inr (fun _ h => h)), ?_⟩
                  · simp only [Act.put, List.setIfInBounds_toArray, List.set_cons_succ, List.set_cons_zero]
                  simp only [Act.put, List.setIfInBounds_toArray, List.set_cons_succ, List.set_cons_zero]
                  generalize W1.alloc (.cells #[.string ⟨#[]⟩, .int .i64 0, .int .i64 0, .int .i64 0, .int .i64 0, .int .i64 0, .int .i64 0, .int .i64 0, .int .i64 0, .int .i64 0, .int .i64 0, .int .i64 0] 78) = W2 at *
                  obtain ⟨zz, hzz⟩ : ∃ z, z = W1.heap.size := ⟨_, rfl⟩
                  rw [← hzz] at oz ⊢
                  replace hzl : wc.heap.size ≤ zz := by omega
                  clear hzz
                  refine Pt.WalkT.make (by rfl) ?_
                  intro V hV
                  rw [hV]
                  clear hV V
                  go_wp2_with (go_at_call 56; refine (cV.out W2).mono ?_; rintro e W3 ⟨rfl, hbx⟩)
                  have hb3 := hb2.trans (hbx.mono hb2.size)
                  obtain ⟨z1, z2⟩ := KC.out _ _ hbx hbr y1 y2
                  have oz := oz.same hbx
                  replace hbr : b < W3.heap.size := by have := hbx.size; omega
                  clear hbx y1 y2
                  have y1 := z1
                  have y2 := z2
                  clear z1 z2
                  refine ⟨rfl, _, _, (fun V => V = W3), rfl, rfl, (fun V h => by rw [h]; exact ⟨y1, y2⟩), (.inr (fun _ h => h)), ?_⟩
                  simp only [Act.put, List.setIfInBounds_toArray, List.set_cons_succ, List.set_cons_zero]
                  iterate 3 (first
                    | (apply Pt.WalkT.on (by rfl)
                       · rintro V ⟨y1, y2⟩
                         go_wp2_with fail
                         refine ⟨rfl, ?_, rfl⟩
                         try simp only [Act.put, List.setIfInBounds_toArray, List.set_cons_succ, List.set_cons_zero]
                         rfl
                       simp only [Act.put, List.setIfInBounds_toArray, List.set_cons_succ, List.set_cons_zero]))
                  refine Pt.WalkT.make (by rfl) ?_
                  intro V hV
                  rw [hV]
                  clear hV V
                  go_wp2_with (refine wpList_store_ob rfl 78 (.tmp 10) (.tmp 73) rfl (cells := (.string xs :: qq.map (Value.int .i64)).toArray) rfl rfl oz HQS.out (by rw [HQS.out]; exact row78_size0) HQ1.out ?_; intro W4 hO hg)
                  have hb4 := hb3.grown hg hb3.size (fun k e => by cases e; exact hzl)
                  have y3 := (hg.cell y2 (fun e => by have e2 : b = zz := Option.some.inj e; have := hbl; omega))
                  have y4 := (hg.cell y1 (fun e => by have e2 : b = zz := Option.some.inj e; have := hbl; omega))
                  clear y1 y2 oz hg
                  have y1 := y4
                  have y2 := y3
                  clear y3 y4
                  refine ⟨rfl, undef, _, (fun V => V = W4), rfl, rfl, (fun V h => by rw [h]; exact ⟨y1, y2⟩), (.inr (fun _ h => h)), ?_⟩
                  try simp only [Act.put, List.setIfInBounds_toArray, List.set_cons_succ, List.set_cons_zero]
                  iterate 1 (first
                    | (apply Pt.WalkT.on (by rfl)
                       · rintro V ⟨y1, y2⟩
                         go_wp2_with fail
                         refine ⟨rfl, ?_, rfl⟩
                         try simp only [Act.put, List.setIfInBounds_toArray, List.set_cons_succ, List.set_cons_zero]
                         rfl
                       simp only [Act.put, List.setIfInBounds_toArray, List.set_cons_succ, List.set_cons_zero]))
                  refine Pt.WalkT.nil ?_
                  intro V hV
                  rw [hV]
                  clear hV V
                  have HB4 := Lib.hid hb4
                  clear hb4 hO
                  cases tk with
                  | false =>
                    go_wp2
                    go_roundw
                    case rel => exact ⟨j + 1, by omega, by go_num, rfl, HB4.out⟩
                    case measure => simp [intOf]; omega
                  | true =>
                    by_cases hf : hv < xn
                    · have df : decide (hv < xn) = true := by simpa using hf
                      have HNO := Lib.hid (show rless s k L = false from rless_no (List.take_prefix (j + 1) L) (by rw [HSN.out, df]; simp))
                      clear hf
                      go_wp2
                      go_ret
                      have hfin : rdoS s k L = (s, 51) := by rw [HX.out, HHA.out, HNO.out]; rfl
                      rw [hfin]
                      exact ⟨rfl, hR1.same HB4.out, Kept.of_below (hB1.out.trans (HB4.out.mono hB1.out.size)) fun i hi => hi.1⟩
                    · have df : decide (hv < xn) = false := by simpa using hf
                      have HYES := Lib.hid (show (true && !rless s k (L.take (j + 1))) = false by rw [HSN.out, df]; have h := HN.out; revert h; cases rless s k (L.take j) <;> simp)
                      clear hf
                      go_wp2
                      go_roundw
                      case rel => exact ⟨j + 1, by omega, by go_num, HYES.out, HB4.out⟩
                      case measure => simp [intOf]; omega
              · intro V hV
                rw [hV]
                clear hV V
                go_wp2_with fail
                have oz := Ob.new W0 78 #[.string ⟨#[]⟩, .int .i64 0, .int .i64 0, .int .i64 0, .int .i64 0, .int .i64 0, .int .i64 0, .int .i64 0, .int .i64 0, .int .i64 0, .int .i64 0, .int .i64 0]
                have hbx := (Below.refl W0.heap.size W0).alloc (Nat.le_refl _) (.cells #[.string ⟨#[]⟩, .int .i64 0, .int .i64 0, .int .i64 0, .int .i64 0, .int .i64 0, .int .i64 0, .int .i64 0, .int .i64 0, .int .i64 0, .int .i64 0, .int .i64 0] 78)
                have hb1 := hb0.trans (hbx.mono hb0.size)
                obtain ⟨z1, z2⟩ := KC.out _ _ hbx hbr y1 y2
                have hzl : wc.heap.size ≤ W0.heap.size := hb0.size
                replace hbr : b < (W0.alloc (.cells #[.string ⟨#[]⟩, .int .i64 0, .int .i64 0, .int .i64 0, .int .i64 0, .int .i64 0, .int .i64 0, .int .i64 0, .int .i64 0, .int .i64 0, .int .i64 0, .int .i64 0] 78)).heap.size := by have := hbx.size; omega
                clear hbx y1 y2
                have y1 := z1
                have y2 := z2
                clear z1 z2
                refine ⟨rfl, .pointer (some ⟨W0.heap.size, 0, none⟩), _, (fun V => V = W0.alloc (.cells #[.string ⟨#[]⟩, .int .i64 0, .int .i64 0, .int .i64 0, .int .i64 0, .int .i64 0, .int .i64 0, .int .i64 0, .int .i64 0, .int .i64 0, .int .i64 0, .int .i64 0] 78)), ?_, rfl, (fun V h => by rw [h]; exact ⟨y1, y2⟩), (.inr (fun _ h => h)), ?_⟩
                · simp only [Act.put, List.setIfInBounds_toArray, List.set_cons_succ, List.set_cons_zero]
                simp only [Act.put, List.setIfInBounds_toArray, List.set_cons_succ, List.set_cons_zero]
                generalize W0.alloc (.cells #[.string ⟨#[]⟩, .int .i64 0, .int .i64 0, .int .i64 0, .int .i64 0, .int .i64 0, .int .i64 0, .int .i64 0, .int .i64 0, .int .i64 0, .int .i64 0, .int .i64 0] 78) = W1 at *
                obtain ⟨zz, hzz⟩ : ∃ z, z = W0.heap.size := ⟨_, rfl⟩
                rw [← hzz] at oz ⊢
                replace hzl : wc.heap.size ≤ zz := by omega
                clear hzz
                refine Pt.WalkT.make (by rfl) ?_
                intro V hV
                rw [hV]
                clear hV V
                go_wp2_with (go_at_call 35; refine (cR.out W1 hb1).mono ?_; rintro e W2 ⟨rfl, hbx⟩)
                have hb2 := hb1.trans (hbx.mono hb1.size)
                obtain ⟨z1, z2⟩ := KC.out _ _ hbx hbr y1 y2
                have oz := oz.same hbx
                replace hbr : b < W2.heap.size := by have := hbx.size; omega
                clear hbx y1 y2
                have y1 := z1
                have y2 := z2
                clear z1 z2
                refine ⟨rfl, _, _, (fun V => V = W2), rfl, rfl, (fun V h => by rw [h]; exact ⟨y1, y2⟩), (.inr (fun _ h => h)), ?_⟩
                simp only [Act.put, List.setIfInBounds_toArray, List.set_cons_succ, List.set_cons_zero]
                refine Pt.WalkT.make (by rfl) ?_
                intro V hV
                rw [hV]
                clear hV V
                go_wp2_with (go_at_call 56; refine (cV.out W2).mono ?_; rintro e W3 ⟨rfl, hbx⟩)
                have hb3 := hb2.trans (hbx.mono hb2.size)
                obtain ⟨z1, z2⟩ := KC.out _ _ hbx hbr y1 y2
                have oz := oz.same hbx
                replace hbr : b < W3.heap.size := by have := hbx.size; omega
                clear hbx y1 y2
                have y1 := z1
                have y2 := z2
                clear z1 z2
                refine ⟨rfl, _, _, (fun V => V = W3), rfl, rfl, (fun V h => by rw [h]; exact ⟨y1, y2⟩), (.inr (fun _ h => h)), ?_⟩
                simp only [Act.put, List.setIfInBounds_toArray, List.set_cons_succ, List.set_cons_zero]
                iterate 3 (first
                  | (apply Pt.WalkT.on (by rfl)
                     · rintro V ⟨y1, y2⟩
                       go_wp2_with fail
                       refine ⟨rfl, ?_, rfl⟩
                       try simp only [Act.put, List.setIfInBounds_toArray, List.set_cons_succ, List.set_cons_zero]
                       rfl
                     simp only [Act.put, List.setIfInBounds_toArray, List.set_cons_succ, List.set_cons_zero]))
                refine Pt.WalkT.make (by rfl) ?_
                intro V hV
                rw [hV]
                clear hV V
                go_wp2_with (refine wpList_store_ob rfl 78 (.tmp 10) (.tmp 73) rfl (cells := (.string xs :: qq.map (Value.int .i64)).toArray) rfl rfl oz HQS.out (by rw [HQS.out]; exact row78_size0) HQ1.out ?_; intro W4 hO hg)
                have hb4 := hb3.grown hg hb3.size (fun k e => by cases e; exact hzl)
                have y3 := (hg.cell y2 (fun e => by have e2 : b = zz := Option.some.inj e; have := hbl; omega))
                have y4 := (hg.cell y1 (fun e => by have e2 : b = zz := Option.some.inj e; have := hbl; omega))
                clear y1 y2 oz hg
                have y1 := y4
                have y2 := y3
                clear y3 y4
                refine ⟨rfl, undef, _, (fun V => V = W4), rfl, rfl, (fun V h => by rw [h]; exact ⟨y1, y2⟩), (.inr (fun _ h => h)), ?_⟩
                try simp only [Act.put, List.setIfInBounds_toArray, List.set_cons_succ, List.set_cons_zero]
                iterate 1 (first
                  | (apply Pt.WalkT.on (by rfl)
                     · rintro V ⟨y1, y2⟩
                       go_wp2_with fail
                       refine ⟨rfl, ?_, rfl⟩
                       try simp only [Act.put, List.setIfInBounds_toArray, List.set_cons_succ, List.set_cons_zero]
                       rfl
                     simp only [Act.put, List.setIfInBounds_toArray, List.set_cons_succ, List.set_cons_zero]))
                refine Pt.WalkT.nil ?_
                intro V hV
                rw [hV]
                clear hV V
                have HB4 := Lib.hid hb4
                clear hb4 hO
                cases tk with
                | false =>
                  go_wp2
                  go_roundw
                  case rel => exact ⟨j + 1, by omega, by go_num, rfl, HB4.out⟩
                  case measure => simp [intOf]; omega
                | true =>
                  by_cases hf : hv < xn
                  · have df : decide (hv < xn) = true := by simpa using hf
                    have HNO := Lib.hid (show rless s k L = false from rless_no (List.take_prefix (j + 1) L) (by rw [HSN.out, df]; simp))
                    clear hf
                    go_wp2
                    go_ret
                    have hfin : rdoS s k L = (s, 51) := by rw [HX.out, HHA.out, HNO.out]; rfl
                    rw [hfin]
                    exact ⟨rfl, hR1.same HB4.out, Kept.of_below (hB1.out.trans (HB4.out.mono hB1.out.size)) fun i hi => hi.1⟩
                  · have df : decide (hv < xn) = false := by simpa using hf
                    have HYES := Lib.hid (show (true && !rless s k (L.take (j + 1))) = false by rw [HSN.out, df]; have h := HN.out; revert h; cases rless s k (L.take j) <;> simp)
                    clear hf
                    go_wp2
                    go_roundw
                    case rel => exact ⟨j + 1, by omega, by go_num, HYES.out, HB4.out⟩
                    case measure => simp [intOf]; omega
            · obtain rfl : j = L.length := by omega
              have HLS := Lib.hid (by have h := HN.out; rwa [List.take_length] at h)
              have HRT := Lib.hid (show rdoS s k L = rdoT s k L by rw [HX.out, HHA.out, HLS.out]; rfl)
              clear HN hlt hj HX HHA HLS
              obtain ⟨i0, hi0, hz0⟩ := Option.map_eq_some_iff.1 row78_info
              simp only [Prod.mk.injEq] at hz0
              obtain ⟨hz0, hz1, hz2⟩ := hz0
              have hRr := hR1.same HBR.out
              obtain ⟨vr, hOx, hRx⟩ := hRr.ob
              obtain ⟨A0, c0, rfl, hc3, hc4⟩ := hRx.form
              unfold maxLen at hc4
              have hx := hOx.cell (j := 0) (v := .slice A0 s.length c0) rfl
              have hxe := (hOx.alloc (.cells #[] 78)).cell (j := 0) (v := .slice A0 s.length c0) rfl
              have hslE : Sl (wr.alloc (.cells #[] 78)) base wr.heap.size 12 (.slice A0 s.length c0) s.length (rsC s) := (Sl.of_own hRx.own).below ((Below.refl wr.heap.size wr).alloc (Nat.le_refl _) _)
              have HSZ := Lib.hid (show (wr.alloc (.cells #[] 78)).heap.size = wr.heap.size + 1 by simp)
              have hbE := (Below.refl wr.heap.size wr).alloc (Nat.le_refl _) (.cells #[] 78)
              have hoE : (wr.alloc (.cells #[] 78)).ownsRow wr.heap.size 78 12 (.slice (some ⟨wr.heap.size, 0, none⟩) 0 0) 0 [] := World.ownsRow_lit wr #[] 0 (Nat.le_refl _) (Nat.zero_le _) rfl
              go_upto_region 18 with (at_builtin; refine wpList_append_sl _ rfl (.tmp 85) (.tmp 89) _ rfl wr.heap.size 78 i0 _ 12 104 Try.underlying74 hi0 hz0 hz1 hz2 rfl (by omega) (.slice (some ⟨wr.heap.size, 0, none⟩) 0 0) 0 [] rfl hoE base wr.heap.size _ s.length (rsC s) rfl hslE rsC_one (by unfold maxLen; omega) (by omega) (by simp) ?_; intro v1 w5 hv0 hg1 hat1; have hv1 : w5.ownsRow wr.heap.size 78 12 v1 s.length (rsC s) := (by simpa using hv0); obtain ⟨A1, c1, rfl, -⟩ := (Sl.of_own hv1).at_)
              have hB5 : Below wr.heap.size wr w5 := hbE.grown hg1 (by simp) (fun g hg => (hoE.lt g hg).1)
              have hsz5 : wr.heap.size ≤ w5.heap.size := hB5.size
              have hB6 : Below wr.heap.size wr (w5.alloc (.cells #[.slice A1 s.length c1] 76)) := hB5.alloc hsz5 _
              have hN6 : RsAt (w5.alloc (.cells #[.slice A1 s.length c1] 76)) wr.heap.size w5.heap.size s := ⟨⟨_, Ob.new _ _ _, hv1.alloc _, hRx.ok⟩, hsz5⟩
              have hB7 : Below wc.heap.size wc (w5.alloc (.cells #[.slice A1 s.length c1] 76)) := HBR.out.trans (hB6.mono HBR.out.size)
              have hnl : wc.heap.size ≤ w5.heap.size := Nat.le_trans HBR.out.size hsz5
              have hN7 : RsAt (w5.alloc (.cells #[.slice A1 s.length c1] 76)) wc.heap.size w5.heap.size s := ⟨by obtain ⟨v, q1, q2⟩ := hN6.ob; exact ⟨v, q1, row_mono q2.own HBR.out.size, q2.ok⟩, hnl⟩
              have HN7 := Lib.hid hN7
              have HB7 := Lib.hid hB7
              clear hi0 hz0 hz1 hz2 hRr hOx hRx hx hxe hslE HSZ hbE hoE hv0 hv1 hg1 hat1 hB5 hsz5 hB6 hN6 hB7 hN7 HBR
              generalize w5.alloc (.cells #[.slice A1 s.length c1] 76) = w7 at *
              generalize w5.heap.size = nb at *
              go_wp2
              go_loopw [13] (fun i V => ∃ (j : Nat) (t : Stk), j ≤ L.length ∧ i = .int .i64 j ∧ rgo k s (L.take j) = some t ∧ t.length ≤ 200000 + j ∧ Below wc.heap.size wc V ∧ RsAt V wc.heap.size nb t) (fun i _ => L.length - (intOf i).toNat)
              case atStart => exact ⟨0, s, by omega, rfl, rfl, by omega, HB7.out, HN7.out⟩
              case round =>
                obtain ⟨j, t, hj, rfl, hG, htl, hBr, hNr⟩ := hrel
                have HG := Lib.hid hG
                have HBR := Lib.hid hBr
                clear hG hBr HB7 HN7
                by_cases hlt : j < L.length
                · obtain ⟨b, o, rfl, -, hb, g1, g2⟩ := hI1.cellAt hlt
                  have hd : decide ((j : Int) < (L.length : Int)) = true := by simp; omega
                  have HGS := Lib.hid (show rgo k s (L.take (j + 1)) = if rightR (stepR k (rowG s (key L[j])) L[j].2) = true then some (setS t (key L[j]) (stepR k (rowG s (key L[j])) L[j].2)) else none by rw [List.take_succ_eq_append_getElem hlt, rgo_snoc, HG.out]; rfl)
                  have hfx := (hF _ (List.getElem_mem hlt)).1
                  generalize L[j] = it at *
                  obtain ⟨xs, xn⟩ := it
                  dsimp only at g1 g2 HGS hfx
                  replace g1 := (HBR.out.cell (p := ⟨b, o + j * 2, none⟩) hb).trans g1
                  replace g2 := (HBR.out.cell (p := ⟨b, o + j * 2 + 1, none⟩) hb).trans g2
                  go_upto_region 21 with (fail)
                  have hRW : RsAt wr.drew base x s := hR1.same HBR.out.drew
                  have hnx := hRW.row (key (xs, xn))
                  have cR := Lib.hid (fun V (hb : Below wr.drew.heap.size wr.drew V) => row_calls (hRW.same hb) xs)
                  have hky : key (xs, xn) = xs.data.toList := rfl
                  rw [hky] at HGS hnx
                  have cV := Lib.hid (fun V => move_calls k xs hnx xn V)
                  have hqo := hnx.step k xn
                  have HQS := Lib.hid (qs_size xs hqo)
                  have HQ1 := Lib.hid (qs_one xs (stepR k (rowG s xs.data.toList) xn))
                  have hNd : RsAt wr.drew wc.heap.size nb t := hNr.same (Below.refl _ wr).drew
                  have hBd : Below wc.heap.size wc wr.drew := HBR.out.drew
                  clear hky hnx hNr hRW
                  generalize stepR k (rowG s xs.data.toList) xn = qq at *
                  generalize haveR k (rowG s xs.data.toList) = hv at *
                  generalize rowG s xs.data.toList = rr at *
                  have hb0 : Below wr.drew.heap.size wr.drew wr.drew := Below.refl _ _
                  have y1 : wr.drew.cell? ⟨b, o + j * 2, none⟩ = some (.string xs) := g1
                  have y2 : wr.drew.cell? ⟨b, o + j * 2 + 1, none⟩ = some (.int .i64 xn) := g2
                  have hbr : b < wr.drew.heap.size := by have := HBR.out.size; show b < wr.heap.size; omega
                  have KC := Lib.hid (fun (A : World) (V : World) (h : Below A.heap.size A V) (hb : b < A.heap.size) (c1 : A.cell? ⟨b, o + j * 2, none⟩ = some (.string xs)) (c2 : A.cell? ⟨b, o + j * 2 + 1, none⟩ = some (.int .i64 xn)) => And.intro ((h.cell (p := ⟨b, o + j * 2, none⟩) hb).trans c1) ((h.cell (p := ⟨b, o + j * 2 + 1, none⟩) hb).trans c2))
                  refine Pt.regionT (.look 0 (.look 1 (.look 2 (.look 3 (.look 4 (.look 5 (.look 6 (.look 8 (.look 9 (.look 10 (.look 11 (.look 12 (.fork 7 (.fork 13 (.look 14 (.look 15 (.look 16 (.make 17 (.make 18 (.look 19 .nil)))))) 17 (.make 13 (.look 14 (.look 15 (.look 16 (.make 18 (.look 19 .nil))))))) 17 (.make 7 (.make 13 (.look 14 (.look 15 (.look 16 (.make 18 (.look 19 .nil)))))))))))))))))))) (fun V => V.cell? ⟨b, o + j * 2, none⟩ = some (.string xs) ∧ V.cell? ⟨b, o + j * 2 + 1, none⟩ = some (.int .i64 xn)) hmx (by kernel_rfl) (by kernel_rfl) (by kernel_rfl) ⟨y1, y2⟩ rfl ?_
                  simp only [Pt.named, List.getElem?_toArray, List.getElem?_cons_succ, List.getElem?_cons_zero, Option.map_some]
                  iterate 12 (first
                    | (apply Pt.WalkT.on (by rfl)
                       · rintro V ⟨y1, y2⟩
                         go_wp2_with fail
                         refine ⟨rfl, ?_, rfl⟩
                         try simp only [Act.put, List.setIfInBounds_toArray, List.set_cons_succ, List.set_cons_zero]
                         rfl
                       simp only [Act.put, List.setIfInBounds_toArray, List.set_cons_succ, List.set_cons_zero]))
                  have hbl : b < wr.drew.heap.size := hbr
                  generalize wr.drew = W0 at *
                  clear g1 g2
                  refine Pt.WalkT.fork (by rfl) (by rfl) ?_ ?_
                  · intro V hV
                    rw [hV]
                    clear hV V
                    go_wp2_with (go_at_call 35; refine (cR.out W0 hb0).mono ?_; rintro e W1 ⟨rfl, hbx⟩)
                    have hb1 := hb0.trans (hbx.mono hb0.size)
                    obtain ⟨z1, z2⟩ := KC.out _ _ hbx hbr y1 y2
                    replace hbr : b < W1.heap.size := by have := hbx.size; omega
                    clear hbx y1 y2
                    have y1 := z1
                    have y2 := z2
                    clear z1 z2
                    refine ⟨rfl, _, _, (fun V => V = W1), rfl, rfl, (fun V h => by rw [h]; exact ⟨y1, y2⟩), (.inr (fun _ h => h)), ?_⟩
                    simp only [Act.put, List.setIfInBounds_toArray, List.set_cons_succ, List.set_cons_zero]
                    refine Pt.WalkT.fork (by rfl) (by rfl) ?_ ?_
                    · intro V hV
                      rw [hV]
                      clear hV V
                      go_wp2_with (go_at_call 56; refine (cV.out W1).mono ?_; rintro e W2 ⟨rfl, hbx⟩)
                      have hb2 := hb1.trans (hbx.mono hb1.size)
                      obtain ⟨z1, z2⟩ := KC.out _ _ hbx hbr y1 y2
                      replace hbr : b < W2.heap.size := by have := hbx.size; omega
                      clear hbx y1 y2
                      have y1 := z1
                      have y2 := z2
                      clear z1 z2
                      refine ⟨rfl, _, _, (fun V => V = W2), rfl, rfl, (fun V h => by rw [h]; exact ⟨y1, y2⟩), (.inr (fun _ h => h)), ?_⟩
                      simp only [Act.put, List.setIfInBounds_toArray, List.set_cons_succ, List.set_cons_zero]
                      iterate 3 (first
                        | (apply Pt.WalkT.on (by rfl)
                           · rintro V ⟨y1, y2⟩
                             go_wp2_with fail
                             refine ⟨rfl, ?_, rfl⟩
                             try simp only [Act.put, List.setIfInBounds_toArray, List.set_cons_succ, List.set_cons_zero]
                             rfl
                           simp only [Act.put, List.setIfInBounds_toArray, List.set_cons_succ, List.set_cons_zero]))
                      refine Pt.WalkT.make (by rfl) ?_
                      intro V hV
                      rw [hV]
                      clear hV V
                      go_wp2_with fail
                      have oz := Ob.new W2 78 #[.string ⟨#[]⟩, .int .i64 0, .int .i64 0, .int .i64 0, .int .i64 0, .int .i64 0, .int .i64 0, .int .i64 0, .int .i64 0, .int .i64 0, .int .i64 0, .int .i64 0]
                      have hbx := (Below.refl W2.heap.size W2).alloc (Nat.le_refl _) (.cells #[.string ⟨#[]⟩, .int .i64 0, .int .i64 0, .int .i64 0, .int .i64 0, .int .i64 0, .int .i64 0, .int .i64 0, .int .i64 0, .int .i64 0, .int .i64 0, .int .i64 0] 78)
                      have hb3 := hb2.trans (hbx.mono hb2.size)
                      obtain ⟨z1, z2⟩ := KC.out _ _ hbx hbr y1 y2
                      have hzl : W0.heap.size ≤ W2.heap.size := hb2.size
                      replace hbr : b < (W2.alloc (.cells #[.string ⟨#[]⟩, .int .i64 0, .int .i64 0, .int .i64 0, .int .i64 0, .int .i64 0, .int .i64 0, .int .i64 0, .int .i64 0, .int .i64 0, .int .i64 0, .int .i64 0] 78)).heap.size := by have := hbx.size; omega
                      clear hbx y1 y2
                      have y1 := z1
                      have y2 := z2
                      clear z1 z2
                      refine ⟨rfl, .pointer (some ⟨W2.heap.size, 0, none⟩), _, (fun V => V = W2.alloc (.cells #[.string ⟨#[]⟩, .int .i64 0, .int .i64 0, .int .i64 0, .int .i64 0, .int .i64 0, .int .i64 0, .int .i64 0, .int .i64 0, .int .i64 0, .int .i64 0, .int .i64 0] 78)), ?_, rfl, (fun V h => by rw [h]; exact ⟨y1, y2⟩), (.inr (fun _ h => h)), ?_⟩
                      · simp only [Act.put, List.setIfInBounds_toArray, List.set_cons_succ, List.set_cons_zero]
                      simp only [Act.put, List.setIfInBounds_toArray, List.set_cons_succ, List.set_cons_zero]
                      generalize W2.alloc (.cells #[.string ⟨#[]⟩, .int .i64 0, .int .i64 0, .int .i64 0, .int .i64 0, .int .i64 0, .int .i64 0, .int .i64 0, .int .i64 0, .int .i64 0, .int .i64 0, .int .i64 0] 78) = W3 at *
                      obtain ⟨zz, hzz⟩ : ∃ z, z = W2.heap.size := ⟨_, rfl⟩
                      rw [← hzz] at oz ⊢
                      replace hzl : W0.heap.size ≤ zz := by omega
                      clear hzz
                      refine Pt.WalkT.make (by rfl) ?_
                      intro V hV
                      rw [hV]
                      clear hV V
                      go_wp2_with (refine wpList_store_ob rfl 78 (.tmp 14) (.tmp 114) rfl (cells := (.string xs :: qq.map (Value.int .i64)).toArray) rfl rfl oz HQS.out (by rw [HQS.out]; exact row78_size0) HQ1.out ?_; intro W4 hO hg)
                      have hb4 := hb3.grown hg hb3.size (fun k e => by cases e; exact hzl)
                      have y3 := (hg.cell y2 (fun e => by have e2 : b = zz := Option.some.inj e; have := hbl; omega))
                      have y4 := (hg.cell y1 (fun e => by have e2 : b = zz := Option.some.inj e; have := hbl; omega))
                      clear y1 y2 oz hg
                      have y1 := y4
                      have y2 := y3
                      clear y3 y4
                      refine ⟨rfl, undef, _, (fun V => V = W4), rfl, rfl, (fun V h => by rw [h]; exact ⟨y1, y2⟩), (.inr (fun _ h => h)), ?_⟩
                      try simp only [Act.put, List.setIfInBounds_toArray, List.set_cons_succ, List.set_cons_zero]
                      iterate 1 (first
                        | (apply Pt.WalkT.on (by rfl)
                           · rintro V ⟨y1, y2⟩
                             go_wp2_with fail
                             refine ⟨rfl, ?_, rfl⟩
                             try simp only [Act.put, List.setIfInBounds_toArray, List.set_cons_succ, List.set_cons_zero]
                             rfl
                           simp only [Act.put, List.setIfInBounds_toArray, List.set_cons_succ, List.set_cons_zero]))
                      refine Pt.WalkT.nil ?_
                      intro V hV
                      rw [hV]
                      clear hV V
                      have hN4 := hNd.same hb4
                      have HB4 := Lib.hid (hBd.trans (hb4.mono hBd.size))
                      have cRt := rright_any xs hqo W4
                      clear hb4 hNd
                      go_wp2_with (refine wpList_load_ob rfl 78 (.tmp 14) rfl rfl _ hO Try.underlying78 rfl (by rw [HQS.out]; exact row78_size0) ?_)
                      refine cRt.mono ?_
                      rintro e W8 ⟨rfl, hb8⟩
                      have hO8 := hO.same hb8
                      have hN8 := hN4.same hb8
                      have HB8 := Lib.hid (HB4.out.trans (hb8.mono HB4.out.size))
                      clear cRt hO hN4 hb8
                      cases hrt : rightR qq with
                      | false =>
                        have HNO := Lib.hid (show rdoS s k L = (s, 50) by
                          have h1 : rgo k s (L.take (j + 1)) = none := by rw [HGS.out, hrt]; rfl
                          rw [HRT.out]
                          unfold rdoT
                          rw [rgo_prefix (List.take_prefix (j + 1) L) h1])
                        clear hrt
                        go_wp2
                        go_ret
                        rw [HNO.out]
                        exact ⟨rfl, hR1.same HB8.out, Kept.of_below (hB1.out.trans (HB8.out.mono hB1.out.size)) fun i hi => hi.1⟩
                      | true =>
                        have HYES := Lib.hid (show rgo k s (L.take (j + 1)) = some (setS t xs.data.toList qq) by rw [HGS.out, hrt]; rfl)
                        have cS := set_calls hN8 HB8.out.size (by omega) xs hfx hqo
                        clear hrt
                        go_wp2_with (refine wpList_load_ob rfl 78 (.tmp 14) rfl rfl _ hO8 Try.underlying78 rfl (by rw [HQS.out]; exact row78_size0) ?_)
                        refine cS.mono ?_
                        rintro e W9 ⟨rfl, hN9, hk9⟩
                        have HB9 := Lib.hid (HB8.out.trans (hk9.below (B := wc.heap.size) (fun i hi => ⟨by have := HB8.out.size; omega, by omega⟩)))
                        have hln := setS_len t xs.data.toList qq
                        clear cS hN8 hk9 hO8
                        go_wp2
                        go_roundw
                        case rel => exact ⟨j + 1, _, by omega, by go_num, HYES.out, by omega, HB9.out, hN9⟩
                        case measure => simp [intOf]; omega
                    · intro V hV
                      rw [hV]
                      clear hV V
                      go_wp2_with fail
                      have oz := Ob.new W1 78 #[.string ⟨#[]⟩, .int .i64 0, .int .i64 0, .int .i64 0, .int .i64 0, .int .i64 0, .int .i64 0, .int .i64 0, .int .i64 0, .int .i64 0, .int .i64 0, .int .i64 0]
                      have hbx := (Below.refl W1.heap.size W1).alloc (Nat.le_refl _) (.cells #[.string ⟨#[]⟩, .int .i64 0, .int .i64 0, .int .i64 0, .int .i64 0, .int .i64 0, .int .i64 0, .int .i64 0, .int .i64 0, .int .i64 0, .int .i64 0, .int .i64 0] 78)
                      have hb2 := hb1.trans (hbx.mono hb1.size)
                      obtain ⟨z1, z2⟩ := KC.out _ _ hbx hbr y1 y2
                      have hzl : W0.heap.size ≤ W1.heap.size := hb1.size
                      replace hbr : b < (W1.alloc (.cells #[.string ⟨#[]⟩, .int .i64 0, .int .i64 0, .int .i64 0, .int .i64 0, .int .i64 0, .int .i64 0, .int .i64 0, .int .i64 0, .int .i64 0, .int .i64 0, .int .i64 0] 78)).heap.size := by have := hbx.size; omega
                      clear hbx y1 y2
                      have y1 := z1
                      have y2 := z2
                      clear z1 z2
                      refine ⟨rfl, .pointer (some ⟨W1.heap.size, 0, none⟩), _, (fun V => V = W1.alloc (.cells #[.string ⟨#[]⟩, .int .i64 0, .int .i64 0, .int .i64 0, .int .i64 0, .int .i64 0, .int .i64 0, .int .i64 0, .int .i64 0, .int .i64 0, .int .i64 0, .int .i64 0] 78)), ?_, rfl, (fun V h => by rw [h]; exact ⟨y1, y2⟩), (.inr (fun _ h => h)), ?_⟩
                      · simp only [Act.put, List.setIfInBounds_toArray, List.set_cons_succ, List.set_cons_zero]
                      simp only [Act.put, List.setIfInBounds_toArray, List.set_cons_succ, List.set_cons_zero]
                      generalize W1.alloc (.cells #[.string ⟨#[]⟩, .int .i64 0, .int .i64 0, .int .i64 0, .int .i64 0, .int .i64 0, .int .i64 0, .int .i64 0, .int .i64 0, .int .i64 0, .int .i64 0, .int .i64 0] 78) = W2 at *
                      obtain ⟨zz, hzz⟩ : ∃ z, z = W1.heap.size := ⟨_, rfl⟩
                      rw [← hzz] at oz ⊢
                      replace hzl : W0.heap.size ≤ zz := by omega
                      clear hzz
                      refine Pt.WalkT.make (by rfl) ?_
                      intro V hV
                      rw [hV]
                      clear hV V
                      go_wp2_with (go_at_call 56; refine (cV.out W2).mono ?_; rintro e W3 ⟨rfl, hbx⟩)
                      have hb3 := hb2.trans (hbx.mono hb2.size)
                      obtain ⟨z1, z2⟩ := KC.out _ _ hbx hbr y1 y2
                      have oz := oz.same hbx
                      replace hbr : b < W3.heap.size := by have := hbx.size; omega
                      clear hbx y1 y2
                      have y1 := z1
                      have y2 := z2
                      clear z1 z2
                      refine ⟨rfl, _, _, (fun V => V = W3), rfl, rfl, (fun V h => by rw [h]; exact ⟨y1, y2⟩), (.inr (fun _ h => h)), ?_⟩
                      simp only [Act.put, List.setIfInBounds_toArray, List.set_cons_succ, List.set_cons_zero]
                      iterate 3 (first
                        | (apply Pt.WalkT.on (by rfl)
                           · rintro V ⟨y1, y2⟩
                             go_wp2_with fail
                             refine ⟨rfl, ?_, rfl⟩
                             try simp only [Act.put, List.setIfInBounds_toArray, List.set_cons_succ, List.set_cons_zero]
                             rfl
                           simp only [Act.put, List.setIfInBounds_toArray, List.set_cons_succ, List.set_cons_zero]))
                      refine Pt.WalkT.make (by rfl) ?_
                      intro V hV
                      rw [hV]
                      clear hV V
                      go_wp2_with (refine wpList_store_ob rfl 78 (.tmp 14) (.tmp 114) rfl (cells := (.string xs :: qq.map (Value.int .i64)).toArray) rfl rfl oz HQS.out (by rw [HQS.out]; exact row78_size0) HQ1.out ?_; intro W4 hO hg)
                      have hb4 := hb3.grown hg hb3.size (fun k e => by cases e; exact hzl)
                      have y3 := (hg.cell y2 (fun e => by have e2 : b = zz := Option.some.inj e; have := hbl; omega))
                      have y4 := (hg.cell y1 (fun e => by have e2 : b = zz := Option.some.inj e; have := hbl; omega))
                      clear y1 y2 oz hg
                      have y1 := y4
                      have y2 := y3
                      clear y3 y4
                      refine ⟨rfl, undef, _, (fun V => V = W4), rfl, rfl, (fun V h => by rw [h]; exact ⟨y1, y2⟩), (.inr (fun _ h => h)), ?_⟩
                      try simp only [Act.put, List.setIfInBounds_toArray, List.set_cons_succ, List.set_cons_zero]
                      iterate 1 (first
                        | (apply Pt.WalkT.on (by rfl)
                           · rintro V ⟨y1, y2⟩
                             go_wp2_with fail
                             refine ⟨rfl, ?_, rfl⟩
                             try simp only [Act.put, List.setIfInBounds_toArray, List.set_cons_succ, List.set_cons_zero]
                             rfl
                           simp only [Act.put, List.setIfInBounds_toArray, List.set_cons_succ, List.set_cons_zero]))
                      refine Pt.WalkT.nil ?_
                      intro V hV
                      rw [hV]
                      clear hV V
                      have hN4 := hNd.same hb4
                      have HB4 := Lib.hid (hBd.trans (hb4.mono hBd.size))
                      have cRt := rright_any xs hqo W4
                      clear hb4 hNd
                      go_wp2_with (refine wpList_load_ob rfl 78 (.tmp 14) rfl rfl _ hO Try.underlying78 rfl (by rw [HQS.out]; exact row78_size0) ?_)
                      refine cRt.mono ?_
                      rintro e W8 ⟨rfl, hb8⟩
                      have hO8 := hO.same hb8
                      have hN8 := hN4.same hb8
                      have HB8 := Lib.hid (HB4.out.trans (hb8.mono HB4.out.size))
                      clear cRt hO hN4 hb8
                      cases hrt : rightR qq with
                      | false =>
                        have HNO := Lib.hid (show rdoS s k L = (s, 50) by
                          have h1 : rgo k s (L.take (j + 1)) = none := by rw [HGS.out, hrt]; rfl
                          rw [HRT.out]
                          unfold rdoT
                          rw [rgo_prefix (List.take_prefix (j + 1) L) h1])
                        clear hrt
                        go_wp2
                        go_ret
                        rw [HNO.out]
                        exact ⟨rfl, hR1.same HB8.out, Kept.of_below (hB1.out.trans (HB8.out.mono hB1.out.size)) fun i hi => hi.1⟩
                      | true =>
                        have HYES := Lib.hid (show rgo k s (L.take (j + 1)) = some (setS t xs.data.toList qq) by rw [HGS.out, hrt]; rfl)
                        have cS := set_calls hN8 HB8.out.size (by omega) xs hfx hqo
                        clear hrt
                        go_wp2_with (refine wpList_load_ob rfl 78 (.tmp 14) rfl rfl _ hO8 Try.underlying78 rfl (by rw [HQS.out]; exact row78_size0) ?_)
                        refine cS.mono ?_
                        rintro e W9 ⟨rfl, hN9, hk9⟩
                        have HB9 := Lib.hid (HB8.out.trans (hk9.below (B := wc.heap.size) (fun i hi => ⟨by have := HB8.out.size; omega, by omega⟩)))
                        have hln := setS_len t xs.data.toList qq
                        clear cS hN8 hk9 hO8
                        go_wp2
                        go_roundw
                        case rel => exact ⟨j + 1, _, by omega, by go_num, HYES.out, by omega, HB9.out, hN9⟩
                        case measure => simp [intOf]; omega
                  · intro V hV
                    rw [hV]
                    clear hV V
                    go_wp2_with fail
                    have oz := Ob.new W0 78 #[.string ⟨#[]⟩, .int .i64 0, .int .i64 0, .int .i64 0, .int .i64 0, .int .i64 0, .int .i64 0, .int .i64 0, .int .i64 0, .int .i64 0, .int .i64 0, .int .i64 0]
                    have hbx := (Below.refl W0.heap.size W0).alloc (Nat.le_refl _) (.cells #[.string ⟨#[]⟩, .int .i64 0, .int .i64 0, .int .i64 0, .int .i64 0, .int .i64 0, .int .i64 0, .int .i64 0, .int .i64 0, .int .i64 0, .int .i64 0, .int .i64 0] 78)
                    have hb1 := hb0.trans (hbx.mono hb0.size)
                    obtain ⟨z1, z2⟩ := KC.out _ _ hbx hbr y1 y2
                    have hzl : W0.heap.size ≤ W0.heap.size := hb0.size
                    replace hbr : b < (W0.alloc (.cells #[.string ⟨#[]⟩, .int .i64 0, .int .i64 0, .int .i64 0, .int .i64 0, .int .i64 0, .int .i64 0, .int .i64 0, .int .i64 0, .int .i64 0, .int .i64 0, .int .i64 0] 78)).heap.size := by have := hbx.size; omega
                    clear hbx y1 y2
                    have y1 := z1
                    have y2 := z2
                    clear z1 z2
                    refine ⟨rfl, .pointer (some ⟨W0.heap.size, 0, none⟩), _, (fun V => V = W0.alloc (.cells #[.string ⟨#[]⟩, .int .i64 0, .int .i64 0, .int .i64 0, .int .i64 0, .int .i64 0, .int .i64 0, .int .i64 0, .int .i64 0, .int .i64 0, .int .i64 0, .int .i64 0] 78)), ?_, rfl, (fun V h => by rw [h]; exact ⟨y1, y2⟩), (.inr (fun _ h => h)), ?_⟩
                    · simp only [Act.put, List.setIfInBounds_toArray, List.set_cons_succ, List.set_cons_zero]
                    simp only [Act.put, List.setIfInBounds_toArray, List.set_cons_succ, List.set_cons_zero]
                    generalize W0.alloc (.cells #[.string ⟨#[]⟩, .int .i64 0, .int .i64 0, .int .i64 0, .int .i64 0, .int .i64 0, .int .i64 0, .int .i64 0, .int .i64 0, .int .i64 0, .int .i64 0, .int .i64 0] 78) = W1 at *
                    obtain ⟨zz, hzz⟩ : ∃ z, z = W0.heap.size := ⟨_, rfl⟩
                    rw [← hzz] at oz ⊢
                    replace hzl : W0.heap.size ≤ zz := by omega
                    clear hzz
                    refine Pt.WalkT.make (by rfl) ?_
                    intro V hV
                    rw [hV]
                    clear hV V
                    go_wp2_with (go_at_call 35; refine (cR.out W1 hb1).mono ?_; rintro e W2 ⟨rfl, hbx⟩)
                    have hb2 := hb1.trans (hbx.mono hb1.size)
                    obtain ⟨z1, z2⟩ := KC.out _ _ hbx hbr y1 y2
                    have oz := oz.same hbx
                    replace hbr : b < W2.heap.size := by have := hbx.size; omega
                    clear hbx y1 y2
                    have y1 := z1
                    have y2 := z2
                    clear z1 z2
                    refine ⟨rfl, _, _, (fun V => V = W2), rfl, rfl, (fun V h => by rw [h]; exact ⟨y1, y2⟩), (.inr (fun _ h => h)), ?_⟩
                    simp only [Act.put, List.setIfInBounds_toArray, List.set_cons_succ, List.set_cons_zero]
                    refine Pt.WalkT.make (by rfl) ?_
                    intro V hV
                    rw [hV]
                    clear hV V
                    go_wp2_with (go_at_call 56; refine (cV.out W2).mono ?_; rintro e W3 ⟨rfl, hbx⟩)
                    have hb3 := hb2.trans (hbx.mono hb2.size)
                    obtain ⟨z1, z2⟩ := KC.out _ _ hbx hbr y1 y2
                    have oz := oz.same hbx
                    replace hbr : b < W3.heap.size := by have := hbx.size; omega
                    clear hbx y1 y2
                    have y1 := z1
                    have y2 := z2
                    clear z1 z2
                    refine ⟨rfl, _, _, (fun V => V = W3), rfl, rfl, (fun V h => by rw [h]; exact ⟨y1, y2⟩), (.inr (fun _ h => h)), ?_⟩
                    simp only [Act.put, List.setIfInBounds_toArray, List.set_cons_succ, List.set_cons_zero]
                    iterate 3 (first
                      | (apply Pt.WalkT.on (by rfl)
                         · rintro V ⟨y1, y2⟩
                           go_wp2_with fail
                           refine ⟨rfl, ?_, rfl⟩
                           try simp only [Act.put, List.setIfInBounds_toArray, List.set_cons_succ, List.set_cons_zero]
                           rfl
                         simp only [Act.put, List.setIfInBounds_toArray, List.set_cons_succ, List.set_cons_zero]))
                    refine Pt.WalkT.make (by rfl) ?_
                    intro V hV
                    rw [hV]
                    clear hV V
                    go_wp2_with (refine wpList_store_ob rfl 78 (.tmp 14) (.tmp 114) rfl (cells := (.string xs :: qq.map (Value.int .i64)).toArray) rfl rfl oz HQS.out (by rw [HQS.out]; exact row78_size0) HQ1.out ?_; intro W4 hO hg)
                    have hb4 := hb3.grown hg hb3.size (fun k e => by cases e; exact hzl)
                    have y3 := (hg.cell y2 (fun e => by have e2 : b = zz := Option.some.inj e; have := hbl; omega))
                    have y4 := (hg.cell y1 (fun e => by have e2 : b = zz := Option.some.inj e; have := hbl; omega))
                    clear y1 y2 oz hg
                    have y1 := y4
                    have y2 := y3
                    clear y3 y4
                    refine ⟨rfl, undef, _, (fun V => V = W4), rfl, rfl, (fun V h => by rw [h]; exact ⟨y1, y2⟩), (.inr (fun _ h => h)), ?_⟩
                    try simp only [Act.put, List.setIfInBounds_toArray, List.set_cons_succ, List.set_cons_zero]
                    iterate 1 (first
                      | (apply Pt.WalkT.on (by rfl)
                         · rintro V ⟨y1, y2⟩
                           go_wp2_with fail
                           refine ⟨rfl, ?_, rfl⟩
                           try simp only [Act.put, List.setIfInBounds_toArray, List.set_cons_succ, List.set_cons_zero]
                           rfl
                         simp only [Act.put, List.setIfInBounds_toArray, List.set_cons_succ, List.set_cons_zero]))
                    refine Pt.WalkT.nil ?_
                    intro V hV
                    rw [hV]
                    clear hV V
                    have hN4 := hNd.same hb4
                    have HB4 := Lib.hid (hBd.trans (hb4.mono hBd.size))
                    have cRt := rright_any xs hqo W4
                    clear hb4 hNd
                    go_wp2_with (refine wpList_load_ob rfl 78 (.tmp 14) rfl rfl _ hO Try.underlying78 rfl (by rw [HQS.out]; exact row78_size0) ?_)
                    refine cRt.mono ?_
                    rintro e W8 ⟨rfl, hb8⟩
                    have hO8 := hO.same hb8
                    have hN8 := hN4.same hb8
                    have HB8 := Lib.hid (HB4.out.trans (hb8.mono HB4.out.size))
                    clear cRt hO hN4 hb8
                    cases hrt : rightR qq with
                    | false =>
                      have HNO := Lib.hid (show rdoS s k L = (s, 50) by
                        have h1 : rgo k s (L.take (j + 1)) = none := by rw [HGS.out, hrt]; rfl
                        rw [HRT.out]
                        unfold rdoT
                        rw [rgo_prefix (List.take_prefix (j + 1) L) h1])
                      clear hrt
                      go_wp2
                      go_ret
                      rw [HNO.out]
                      exact ⟨rfl, hR1.same HB8.out, Kept.of_below (hB1.out.trans (HB8.out.mono hB1.out.size)) fun i hi => hi.1⟩
                    | true =>
                      have HYES := Lib.hid (show rgo k s (L.take (j + 1)) = some (setS t xs.data.toList qq) by rw [HGS.out, hrt]; rfl)
                      have cS := set_calls hN8 HB8.out.size (by omega) xs hfx hqo
                      clear hrt
                      go_wp2_with (refine wpList_load_ob rfl 78 (.tmp 14) rfl rfl _ hO8 Try.underlying78 rfl (by rw [HQS.out]; exact row78_size0) ?_)
                      refine cS.mono ?_
                      rintro e W9 ⟨rfl, hN9, hk9⟩
                      have HB9 := Lib.hid (HB8.out.trans (hk9.below (B := wc.heap.size) (fun i hi => ⟨by have := HB8.out.size; omega, by omega⟩)))
                      have hln := setS_len t xs.data.toList qq
                      clear cS hN8 hk9 hO8
                      go_wp2
                      go_roundw
                      case rel => exact ⟨j + 1, _, by omega, by go_num, HYES.out, by omega, HB9.out, hN9⟩
                      case measure => simp [intOf]; omega
                · obtain rfl : j = L.length := by omega
                  rw [List.take_length] at HG
                  obtain ⟨vr, hOx, hRx⟩ := hNr.ob
                  obtain ⟨A0, c0, rfl, hc3, hc4⟩ := hRx.form
                  unfold maxLen at hc4
                  have hx := hOx.cell (j := 0) (v := .slice A0 t.length c0) rfl
                  by_cases h64 : 64 < t.length
                  · have d64 : decide ((t.length : Int) > 64) = true := by simp; omega
                    have hfin : rdoS s k L = (s, 2) := by rw [HRT.out]; unfold rdoT; rw [HG.out]; exact if_pos h64
                    have HFN := Lib.hid hfin
                    clear hfin
                    go_wp2
                    go_ret
                    rw [HFN.out]
                    exact ⟨rfl, hR1.same HBR.out, Kept.of_below (hB1.out.trans (HBR.out.mono hB1.out.size)) fun i hi => hi.1⟩
                  · have d64 : decide ((t.length : Int) > 64) = false := by simp; omega
                    have hfin : rdoS s k L = (t, 0) := by rw [HRT.out]; unfold rdoT; rw [HG.out]; exact if_neg h64
                    have HFN := Lib.hid hfin
                    obtain ⟨vx, hOxx, -⟩ := (hR1.same HBR.out).ob
                    have fx := hOxx.frozen 0
                    have cx := hOxx.cell (j := 0) (v := vx) rfl
                    have hxl : x < w.heap.size := by obtain ⟨v0, q1, -⟩ := HH.out.ob; exact q1.lt
                    have HWL := Lib.hid hB1.out.size
                    have hbw : base ≤ wc.heap.size := by have := HWL.out; omega
                    clear hfin
                    go_wp2
                    go_ret
                    rw [HFN.out]
                    have hgr := grownBy_set wr x 0 (.slice A0 t.length c0)
                    have hk1 : Kept (fun i => i < w.heap.size ∧ i ≠ x) w wr := Kept.of_below (hB1.out.trans (HBR.out.mono hB1.out.size)) fun i hi => hi.1
                    refine ⟨rfl, ⟨⟨_, hOxx.set 0 _, ?_⟩, HH.out.lo⟩, hk1.trans (Kept.of_grown hgr (fun i hi => ⟨by have := hk1.size; omega, fun e => hi.2 (Option.some.inj e)⟩))⟩
                    exact RowsAt.kept ⟨row_mono hRx.own hbw, hRx.ok⟩ hgr (fun r e => by cases e; exact ⟨_, _, hOxx, by decide⟩)
end Sk
end Go.Proofs.Ytlhpdalfnjhokaa

set_option linter.unusedSimpArgs false
namespace Go.Proofs.Ytlhpdalfnjhokaa
open Go.RowKit Go.Maps
namespace Sk
open It Al Kp
attribute [local go_sem] Oper.semAt_some
set_option maxRecDepth 100000 in
set_option maxHeartbeats 16000000 in
theorem rcount_calls {w : World} {base x : Nat} {s : Stk} (h : RsAt w base x s) (hbase : base ≤ w.heap.size) (hlen : s.length ≤ 100000) (g : ByteArray) (hg : g.size ≤ maxLen) (n : Int) :
    Calls Try.prog 33 #[.pointer (some ⟨x, 0, none⟩), .string g, .int .i64 n] w fun e w' => e = .returned (.tuple #[.int .i64 (rcountS s g.data.toList n).2.1, .int .i64 (rcountS s g.data.toList n).2.2]) ∧ RsAt w' base x (rcountS s g.data.toList n).1 ∧ StKept x w w' := by
  have hmx := hmx
  have cC := Lib.hid (refcount_calls n)
  cases hc : countOk n with
  | false =>
    have HX := Lib.hid (show rcountS s g.data.toList n = (s, 0, 1) by unfold rcountS; rw [if_pos hc])
    rw [HX.out]
    rw [hc] at cC
    go_enter Try.func33, Try.ntmps33
    go_wp2_with fail
    refine (cC.out w).mono ?_
    rintro e W ⟨rfl, rfl⟩
    go_wp2
    go_ret2
    exact ⟨rfl, h, Kept.refl _ _⟩
  | true =>
    rw [hc] at cC
    have cF := find_calls h g
    by_cases hf : findS s g.data.toList < 0
    · have HX := Lib.hid (show rcountS s g.data.toList n = (s, 0, 71) by unfold rcountS; rw [if_neg (by rw [hc]; simp), if_pos hf])
      rw [HX.out]
      generalize findS s g.data.toList = f at *
      have df : decide (f < 0) = true := by simpa using hf
      clear hf hc
      go_enter Try.func33, Try.ntmps33
      go_wp2_with fail
      refine (cC.out w).mono ?_
      rintro e W ⟨rfl, rfl⟩
      go_wp2_with fail
      refine cF.mono ?_
      rintro e W ⟨rfl, rfl⟩
      go_wp2
      go_ret2
      exact ⟨rfl, h, Kept.refl _ _⟩
    have HX := Lib.hid (show rcountS s g.data.toList n = if n < at_ (rowG s g.data.toList) 1 then (s, 0, 70) else if rightR (((rowG s g.data.toList).set 0 (wrap64 (n - at_ (rowG s g.data.toList) 1))).set 6 (wrap64 (at_ (rowG s g.data.toList) 6 + moreR (rowG s g.data.toList) n))) = true then (setS s g.data.toList (((rowG s g.data.toList).set 0 (wrap64 (n - at_ (rowG s g.data.toList) 1))).set 6 (wrap64 (at_ (rowG s g.data.toList) 6 + moreR (rowG s g.data.toList) n))), moreR (rowG s g.data.toList) n, 0) else (s, 0, 50) by unfold rcountS; rw [if_neg (by rw [hc]; simp), if_neg hf])
    have df : decide (findS s g.data.toList < 0) = false := by simpa using hf
    generalize findS s g.data.toList = f at *
    clear hf hc
    have hro := h.row g.data.toList
    have cR := row_calls h g
    obtain ⟨a0, a1, a2, a3, a4, a5, a6, a7, a8, a9, a10, he⟩ := row_eleven hro
    rw [he] at cR HX hro
    have hq : (([a0, a1, a2, a3, a4, a5, a6, a7, a8, a9, a10] : Row).set 0 (wrap64 (n - at_ [a0, a1, a2, a3, a4, a5, a6, a7, a8, a9, a10] 1))).set 6 (wrap64 (at_ [a0, a1, a2, a3, a4, a5, a6, a7, a8, a9, a10] 6 + moreR [a0, a1, a2, a3, a4, a5, a6, a7, a8, a9, a10] n)) = [wrap64 (n - a1), a1, a2, a3, a4, a5, wrap64 (a6 + moreR [a0, a1, a2, a3, a4, a5, a6, a7, a8, a9, a10] n), a7, a8, a9, a10] := rfl
    have hqo : OkRow ((([a0, a1, a2, a3, a4, a5, a6, a7, a8, a9, a10] : Row).set 0 (wrap64 (n - at_ [a0, a1, a2, a3, a4, a5, a6, a7, a8, a9, a10] 1))).set 6 (wrap64 (at_ [a0, a1, a2, a3, a4, a5, a6, a7, a8, a9, a10] 6 + moreR [a0, a1, a2, a3, a4, a5, a6, a7, a8, a9, a10] n))) := (hro.set 0 _).set 6 _
    rw [hq] at HX hqo
    have hm : moreR [a0, a1, a2, a3, a4, a5, a6, a7, a8, a9, a10] n = wrap64 (wrap64 (n - a1) - a0) := rfl
    have h1 : at_ [a0, a1, a2, a3, a4, a5, a6, a7, a8, a9, a10] 1 = a1 := rfl
    rw [h1] at HX
    generalize hmr : moreR [a0, a1, a2, a3, a4, a5, a6, a7, a8, a9, a10] n = mr at *
    have HMR := Lib.hid hm
    have CR := Lib.hid (show Calls Try.prog 35 #[.pointer (some ⟨x, 0, none⟩), .string g] w fun e w' => e = .returned (.agg #[.string g, .int .i64 a0, .int .i64 a1, .int .i64 a2, .int .i64 a3, .int .i64 a4, .int .i64 a5, .int .i64 a6, .int .i64 a7, .int .i64 a8, .int .i64 a9, .int .i64 a10]) ∧ Below w.heap.size w w' from cR)
    have HH := Lib.hid h
    have CF := Lib.hid cF
    have HQO := Lib.hid hqo
    clear he hro hq hqo hm h1 hmr cR cF
    go_enter Try.func33, Try.ntmps33
    go_wp2_with fail
    refine (cC.out w).mono ?_
    rintro e W ⟨rfl, rfl⟩
    go_wp2_with fail
    refine CF.out.mono ?_
    rintro e W ⟨rfl, rfl⟩
    go_upto_region 6 with (go_at_call 35; refine CR.out.mono ?_; rintro e W1 ⟨rfl, hb⟩)
    have o1 := Ob.new W1 78 #[.string g, .int .i64 a0, .int .i64 a1, .int .i64 a2, .int .i64 a3, .int .i64 a4, .int .i64 a5, .int .i64 a6, .int .i64 a7, .int .i64 a8, .int .i64 a9, .int .i64 a10]
    have hB := hb.alloc hb.size (.cells #[.string g, .int .i64 a0, .int .i64 a1, .int .i64 a2, .int .i64 a3, .int .i64 a4, .int .i64 a5, .int .i64 a6, .int .i64 a7, .int .i64 a8, .int .i64 a9, .int .i64 a10] 78)
    have hzl : w.heap.size ≤ W1.heap.size := hb.size
    clear hb CR CF
    generalize W1.alloc (.cells #[.string g, .int .i64 a0, .int .i64 a1, .int .i64 a2, .int .i64 a3, .int .i64 a4, .int .i64 a5, .int .i64 a6, .int .i64 a7, .int .i64 a8, .int .i64 a9, .int .i64 a10] 78) = W2 at *
    generalize W1.heap.size = zz at *
    have c0 := o1.cell (j := 1) (v := .int .i64 a0) rfl
    have c1 := o1.cell (j := 2) (v := .int .i64 a1) rfl
    have c6 := o1.cell (j := 7) (v := .int .i64 a6) rfl
    have z0 := o1.frozen 1
    have z6 := o1.frozen 7
    have HB := Lib.hid hB
    clear hB
    by_cases hl : n < a1
    · have dl : decide (n < a1) = true := by simpa using hl
      have HX2 := Lib.hid (HX.out.trans (if_pos hl))
      clear hl HX
      go_wp2
      go_ret2
      rw [HX2.out]
      exact ⟨rfl, HH.out.same HB.out, Kept.of_below HB.out fun i hi => hi.1⟩
    have dl : decide (n < a1) = false := by simpa using hl
    have HX2 := Lib.hid (HX.out.trans (if_neg hl))
    have HMR2 := HMR
    clear hl HX HMR
    go_upto_region 9 with (fail)
    rw [← HMR2.out]
    go_upto_region 10 with (fail)
    have V1 := 0
    have g1 := grownBy_set W2 zz 1 (.int .i64 (wrap64 (n - a1)))
    have hB1 := HB.out.grown g1 HB.out.size (fun k e => by cases e; exact hzl)
    replace o1 := o1.set 1 (.int .i64 (wrap64 (n - a1)))
    clear c0 c1 c6 z0 z6 V1 HB
    generalize W2.setCell ⟨zz, 1, none⟩ (.int .i64 (wrap64 (n - a1))) = W3 at *
    have g2 := grownBy_set W3 zz 7 (.int .i64 (wrap64 (a6 + mr)))
    have hB2 := hB1.grown g2 hB1.size (fun k e => by cases e; exact hzl)
    replace o1 : Ob (W3.setCell ⟨zz, 7, none⟩ (.int .i64 (wrap64 (a6 + mr)))) zz 78 #[.string g, .int .i64 (wrap64 (n - a1)), .int .i64 a1, .int .i64 a2, .int .i64 a3, .int .i64 a4, .int .i64 a5, .int .i64 (wrap64 (a6 + mr)), .int .i64 a7, .int .i64 a8, .int .i64 a9, .int .i64 a10] := o1.set 7 (.int .i64 (wrap64 (a6 + mr)))
    clear g1 g2 hB1
    generalize W3.setCell ⟨zz, 7, none⟩ (.int .i64 (wrap64 (a6 + mr))) = W4 at *
    have HB4 := Lib.hid hB2
    clear hB2
    have cRt := rright_any g HQO.out W4
    have cRt2 : Calls Try.prog 53 #[.agg #[.string g, .int .i64 (wrap64 (n - a1)), .int .i64 a1, .int .i64 a2, .int .i64 a3, .int .i64 a4, .int .i64 a5, .int .i64 (wrap64 (a6 + mr)), .int .i64 a7, .int .i64 a8, .int .i64 a9, .int .i64 a10]] W4 fun e w' => e = .returned (.bool (rightR [wrap64 (n - a1), a1, a2, a3, a4, a5, wrap64 (a6 + mr), a7, a8, a9, a10])) ∧ Below W4.heap.size W4 w' := cRt
    clear cRt
    generalize hrt : rightR [wrap64 (n - a1), a1, a2, a3, a4, a5, wrap64 (a6 + mr), a7, a8, a9, a10] = rt at *
    go_wp2_with (refine wpList_load_ob rfl 78 (.tmp 8) rfl rfl _ o1 Try.underlying78 rfl (by kernel_rfl) ?_)
    refine cRt2.mono ?_
    rintro e W5 ⟨rfl, hb5⟩
    have o5 := o1.same hb5
    have HB5 := Lib.hid (HB4.out.trans (hb5.mono HB4.out.size))
    clear hb5 o1 cRt2
    cases rt with
    | false =>
      have HX3 := Lib.hid (HX2.out.trans (if_neg (by simp)))
      clear hrt
      go_wp2
      go_ret2
      rw [HX3.out]
      exact ⟨rfl, HH.out.same HB5.out, Kept.of_below HB5.out fun i hi => hi.1⟩
    | true =>
      have HX3 := Lib.hid (HX2.out.trans (if_pos rfl))
      have cS := set_calls (HH.out.same HB5.out) (Nat.le_trans hbase HB5.out.size) (by omega) g hg HQO.out
      have cS2 : Calls Try.prog 54 #[.pointer (some ⟨x, 0, none⟩), .agg #[.string g, .int .i64 (wrap64 (n - a1)), .int .i64 a1, .int .i64 a2, .int .i64 a3, .int .i64 a4, .int .i64 a5, .int .i64 (wrap64 (a6 + mr)), .int .i64 a7, .int .i64 a8, .int .i64 a9, .int .i64 a10]] W5 fun e w' => e = .returned (.tuple #[]) ∧ RsAt w' base x (setS s g.data.toList [wrap64 (n - a1), a1, a2, a3, a4, a5, wrap64 (a6 + mr), a7, a8, a9, a10]) ∧ StKept x W5 w' := cS
      clear hrt cS
      go_wp2_with (refine wpList_load_ob rfl 78 (.tmp 8) rfl rfl _ o5 Try.underlying78 rfl (by kernel_rfl) ?_)
      refine cS2.mono ?_
      rintro e W6 ⟨rfl, hN, hk⟩
      clear cS2 o5
      go_wp2
      go_ret2
      rw [HX3.out]
      exact ⟨rfl, hN, (Kept.of_below (Fr := fun i => i < w.heap.size ∧ i ≠ x) HB5.out fun i hi => hi.1).trans (hk.mono fun i hi => ⟨by have := HB5.out.size; omega, hi.2⟩)⟩
end Sk
end Go.Proofs.Ytlhpdalfnjhokaa
