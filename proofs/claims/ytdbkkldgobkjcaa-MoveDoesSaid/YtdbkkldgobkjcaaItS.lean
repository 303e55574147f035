/-
  the document's answers on items: Norm.
-/
import Derived.Test.YtdbkkldgobkjcaaItR
namespace Go.Proofs.Ytdbkkldgobkjcaa
open Go.RowKit Go.Maps
namespace It

def outN (L : List Item) (i : Nat) : List Item := (ksOf ((L.take i).map key)).filterMap (pick L)
theorem outN_sorted (L : List Item) (i : Nat) : (outN L i).Pairwise fun a b => key a < key b := by
  unfold outN
  rw [List.pairwise_filterMap]
  refine (ksOf_sorted ((L.take i).map key)).imp_of_mem fun {a b} _ _ h x hx y hy => ?_
  rw [(pick_some hx).1, (pick_some hy).1]
  exact h
theorem outN_mem (L : List Item) (i : Nat) (x : Item) : x ∈ outN L i ↔ key x ∈ (L.take i).map key ∧ x.2 = tot (key x) L ∧ 0 < x.2 := by
  unfold outN
  rw [List.mem_filterMap]
  constructor
  · rintro ⟨k, hk, hx⟩
    obtain ⟨rfl, h2, h3⟩ := pick_some hx
    exact ⟨(ksOf_mem _ _).1 hk, h2, h3⟩
  · rintro ⟨h1, h2, h3⟩
    refine ⟨key x, (ksOf_mem _ _).2 h1, ?_⟩
    unfold pick
    rw [← h2, if_pos h3, ← item_eta]
theorem outN_len (L : List Item) (i : Nat) : (outN L i).length ≤ i := by
  refine Nat.le_trans (List.length_filterMap_le _ _) ?_
  have h : ∀ l : List Bs, (ksOf l).length ≤ l.length := by
    intro l
    induction l with
    | nil => simp [ksOf]
    | cons y l ih =>
      have hk : ∀ (k : Bs) (r : List Bs), (insK k r).length ≤ r.length + 1 := by
        intro k r
        induction r with
        | nil => simp [insK]
        | cons z r ih => unfold insK; split; · simp
                         split; · simp
                         simp only [List.length_cons]; omega
      have := hk y (ksOf l)
      unfold ksOf at ih this ⊢
      rw [List.foldr_cons, List.length_cons]
      omega
  refine Nat.le_trans (h _) ?_
  rw [List.length_map, List.length_take]
  omega
theorem outN_put {L : List Item} {i : Nat} (h : i < L.length) (ht : 0 < tot (key L[i]) L) : putL L[i].1 (tot (key L[i]) L) (outN L i) = outN L (i + 1) := by
  refine uniq (r := fun a b : Item => key a < key b) (fun _ => bs_irr _) (fun _ _ => bs_asy _ _) (putL_sorted _ _ _ (outN_sorted L i)) (outN_sorted L (i + 1)) fun x => ?_
  rw [putL_mem _ _ _ _ (outN_sorted L i), outN_mem, outN_mem, List.take_succ_eq_append_getElem h, List.map_append, List.mem_append, List.map_singleton, List.mem_singleton]
  have hk : L[i].1.data.toList = key L[i] := rfl
  rw [hk]
  constructor
  · rintro (rfl | ⟨⟨h1, h2, h3⟩, _⟩)
    · exact ⟨.inr rfl, rfl, ht⟩
    · exact ⟨.inl h1, h2, h3⟩
  · rintro ⟨h1, h2, h3⟩
    by_cases e : key x = key L[i]
    · left
      refine key_item _ _ e ?_
      rw [h2, e]
    · exact .inr ⟨⟨h1.resolve_right e, h2, h3⟩, e⟩
theorem outN_skip {L : List Item} {i : Nat} (h : i < L.length) (ht : ¬ 0 < tot (key L[i]) L) : outN L (i + 1) = outN L i := by
  refine uniq (r := fun a b : Item => key a < key b) (fun _ => bs_irr _) (fun _ _ => bs_asy _ _) (outN_sorted L (i + 1)) (outN_sorted L i) fun x => ?_
  rw [outN_mem, outN_mem, List.take_succ_eq_append_getElem h, List.map_append, List.mem_append, List.map_singleton, List.mem_singleton]
  constructor
  · rintro ⟨h1, h2, h3⟩
    refine ⟨h1.resolve_right fun e => ht ?_, h2, h3⟩
    rw [← e, ← h2]; exact h3
  · rintro ⟨h1, h2, h3⟩
    exact ⟨.inl h1, h2, h3⟩
theorem outN_all (L : List Item) : outN L L.length = normL L := by unfold outN normL; rw [List.take_length]
theorem tot_take_le {L : List Item} (h : L.all okC = true) (k : Bs) (j : Nat) : 0 ≤ tot k (L.take j) ∧ tot k (L.take j) ≤ tot k L := by
  have h1 : (L.take j).all okC = true := all_prefix (List.take_prefix _ _) h
  have h2 : (L.drop j).all okC = true := by
    rw [← List.take_append_drop j L, List.all_append, Bool.and_eq_true] at h
    exact h.2
  have h3 := tot_append k (L.take j) (L.drop j)
  rw [List.take_append_drop] at h3
  have := tot_nonneg k _ h1
  have := tot_nonneg k _ h2
  omega
theorem okC_false {L : List Item} {i : Nat} (h : i < L.length) (hf : okC L[i] = false) : L.all okC = false := by
  rw [List.all_eq_false]
  exact ⟨L[i], List.getElem_mem h, by simp [hf]⟩

theorem own_form {w : World} {lo : Nat} {e : TypeId} {size n : Nat} {v : Value} {xs : List Value} (h : w.ownsRow lo e size v n xs) : v = .slice none 0 0 ∨ ∃ b o n c, v = .slice (some ⟨b, o, none⟩) n c := by
  rcases h.2 with ⟨rfl, _⟩ | ⟨g, cap, cur, rfl, _⟩
  · rcases Nat.eq_zero_or_pos n with h0 | h0
    · exact .inl rfl
    · exact .inl rfl
  · exact .inr ⟨_, _, _, _, rfl⟩

set_option maxRecDepth 100000 in
set_option maxHeartbeats 8000000 in
theorem refnorm_calls (L : List Item) (v : Value) (w : World) (hI : ItemsAt w 0 w.heap.size v L) (hF : Fits L) (hL : L.length ≤ 1000000) :
    Calls Try.prog 46 #[v] w fun e w' =>
      (∃ u, e = .returned (.tuple #[u, .int .i64 (normRes L).2]) ∧ w'.ownsRow w.heap.size 36 2 u (normRes L).1.length (itemCells (normRes L).1)) ∧ Below w.heap.size w w' := by
  obtain ⟨A, c, rfl, hc1, hc2⟩ := hI.form
  unfold maxLen at hc2
  have hmx : Try.prog.follows .mixedOrders = true := by kernel_rfl
  have HR := Lib.hid (show normRes L = if sumsCode L = 0 then (if (normL L).length ≤ 16 then (normL L, 0) else ([], 3)) else ([], sumsCode L) from rfl)
  have HC := Lib.hid (show sumsCode L = if L.all okC then (if over L then 50 else 0) else 60 from rfl)
  generalize normRes L = NR at *
  go_enter Try.func46, Try.ntmps46
  go_wp2
  go_loop [4] (fun i => ∃ k : Nat, k ≤ L.length ∧ i = .int .i64 k ∧ (L.take k).all okC = true) (fun i => L.length - (intOf i).toNat)
  case atStart => exact ⟨0, by omega, rfl, rfl⟩
  case round =>
    obtain ⟨k, hk, rfl, hm⟩ := hrel
    by_cases hlt : k < L.length
    · obtain ⟨b, o, rfl, -, hb, g1, g2⟩ := hI.cellAt hlt
      have hfit := hF _ (List.getElem_mem hlt)
      have hd : decide ((k : Int) < (L.length : Int)) = true := by simp; omega
      have HS := Lib.hid (show (L.take (k + 1)).all okC = okC L[k] by rw [List.take_succ_eq_append_getElem hlt, all_snoc, hm, Bool.true_and])
      have HN := Lib.hid (fun h => okC_false hlt h)
      clear hm
      generalize L[k] = x at *
      obtain ⟨xs, xn⟩ := x
      dsimp only at g1 g2 hfit
      have HO := Lib.hid (show okC (xs, xn) = (good xs && countOk xn) from rfl)
      have cG := Lib.hid (fun W => refgood_calls xs W hfit.1)
      have cN := Lib.hid (fun W => refcount_calls xn W)
      generalize good xs = g at *
      generalize countOk xn = cn at *
      cases g
      · obtain rfl : NR = ([], 60) := by rw [HR.out, HC.out, HN.out (by rw [HO.out]; rfl)]; rfl
        go_wp2_with (first
          | (go_at_call 61; refine (cG.out _).mono ?_; rintro e W2 ⟨rfl, rfl⟩)
          | (go_at_call 62; refine (cN.out _).mono ?_; rintro e W2 ⟨rfl, rfl⟩))
        go_ret2
        exact ⟨⟨_, rfl, World.ownsRow_nil _ _ _ _⟩, Below.refl _ _⟩
      · cases cn
        · obtain rfl : NR = ([], 60) := by rw [HR.out, HC.out, HN.out (by rw [HO.out]; rfl)]; rfl
          go_wp2_with (first
            | (go_at_call 61; refine (cG.out _).mono ?_; rintro e W2 ⟨rfl, rfl⟩)
            | (go_at_call 62; refine (cN.out _).mono ?_; rintro e W2 ⟨rfl, rfl⟩))
          go_ret2
          exact ⟨⟨_, rfl, World.ownsRow_nil _ _ _ _⟩, Below.refl _ _⟩
        · have HS2 := Lib.hid (show (L.take (k + 1)).all okC = true by rw [HS.out, HO.out]; rfl)
          go_wp2_with (first
            | (go_at_call 61; refine (cG.out _).mono ?_; rintro e W2 ⟨rfl, rfl⟩)
            | (go_at_call 62; refine (cN.out _).mono ?_; rintro e W2 ⟨rfl, rfl⟩))
          go_round
          case rel => exact ⟨k + 1, by omega, by go_num, HS2.out⟩
          case measure => simp [intOf]; omega
    · obtain rfl : k = L.length := by omega
      rw [List.take_length] at hm
      have HA := Lib.hid hm
      have HT := Lib.hid (fun (q : Bs) (j : Nat) => tot_take_le hm q j)
      have HP := Lib.hid (fun (i : Nat) (h : i < L.length) (ht : 0 < tot (key L[i]) L) => outN_put h ht)
      have HK := Lib.hid (fun (i : Nat) (h : i < L.length) (ht : ¬ 0 < tot (key L[i]) L) => outN_skip h ht)
      have HOL := Lib.hid (fun i => outN_len L i)
      clear hm
      go_wp2
      go_loopw [5, 6, 7, 8] (fun o i _ _ wr => ∃ k : Nat, k ≤ L.length ∧ i = .int .i64 k ∧ (∀ j (h : j < L.length), j < k → tot (key L[j]) L ≤ 1099511627776) ∧ wr.ownsRow w.heap.size 36 2 o (outN L k).length (itemCells (outN L k)) ∧ Below w.heap.size w wr) (fun _ i _ _ _ => L.length - (intOf i).toNat)
      case atStart => exact ⟨0, by omega, rfl, fun j _ h => by omega, World.ownsRow_nil _ _ _ _, Below.refl _ _⟩
      case round =>
        obtain ⟨i, hi, rfl, hov, hown, hB⟩ := hrel
        by_cases hil : i < L.length
        · have hdi : decide ((i : Int) < (L.length : Int)) = true := by simp; omega
          have HOV := Lib.hid hov
          have HTK := Lib.hid (fun j => HT.out (key L[i]) j)
          have HOT := Lib.hid (HOL.out i)
          clear hov
          obtain ⟨wo, rfl⟩ : ∃ wo : World, wo = wr := ⟨_, rfl⟩
          go_wp2
          go_loopw [7, 8] (fun t q wr => ∃ j : Nat, j ≤ L.length ∧ q = .int .i64 j ∧ t = .int .i64 (tot (key L[i]) (L.take j)) ∧ tot (key L[i]) (L.take j) ≤ 1099511627776 ∧ Below wo.heap.size wo wr) (fun _ q _ => L.length - (intOf q).toNat)
          case atStart => exact ⟨0, by omega, rfl, rfl, by simp [tot], Below.refl _ _⟩
          case round =>
            obtain ⟨j, hj, rfl, rfl, hjt, hBj⟩ := hrel
            by_cases hjl : j < L.length
            · have hdj : decide ((j : Int) < (L.length : Int)) = true := by simp; omega
              have hIr := (hI.mono hB hB.size).mono hBj hBj.size
              obtain ⟨b, o, rfl, -, hb, g1, g2⟩ := hIr.cellAt hjl
              obtain ⟨b', o', e, -, hb', g3, -⟩ := hIr.cellAt hil
              cases e
              have hokj := (okC_le (x := L[j]) (List.all_eq_true.1 HA.out _ (List.getElem_mem hjl)))
              have HS := Lib.hid (show tot (key L[i]) (L.take (j + 1)) = tot (key L[i]) (L.take j) + (if key L[j] = key L[i] then L[j].2 else 0) by rw [List.take_succ_eq_append_getElem hjl, tot_snoc])
              have HLE := Lib.hid (HTK.out (j + 1))
              have HGE := HTK.out j
              have hgt := HGE.1
              have HOver := Lib.hid (show 1099511627776 < tot (key L[i]) (L.take (j + 1)) → over L = true from fun h => by
                refine List.any_eq_true.2 ⟨L[i], List.getElem_mem hil, ?_⟩
                rw [decide_eq_true_iff]
                have := HLE.out
                omega)
              clear HGE HTK
              generalize hti : tot (key L[i]) (L.take j) = t at *
              have hks : (L[j].1.toList == L[i].1.toList) = decide (key L[j] = key L[i]) := by
                rw [toList_key, toList_key]
                exact Bool.eq_iff_iff.2 (by simp [key])
              clear hti
              generalize ht1 : tot (key L[i]) (L.take (j + 1)) = t1 at *
              generalize L[i].1 = ys at *
              generalize key L[i] = ki at *
              have HT1 := Lib.hid ht1
              clear ht1
              generalize hxj : L[j] = x at *
              obtain ⟨xs, xn⟩ := x
              dsimp only at g1 g2 hokj hks
              by_cases hkk : key (xs, xn) = ki
              · rw [decide_eq_true hkk] at hks
                have HS2 := Lib.hid (show t1 = t + xn by rw [HS.out, if_pos hkk])
                clear HS hkk
                by_cases hov : 1099511627776 < t + xn
                · have hdo : decide (1099511627776 < t + xn) = true := by simpa using hov
                  obtain rfl : NR = ([], 50) := by rw [HR.out, HC.out, HA.out, HOver.out (by rw [HS2.out]; exact hov)]; rfl
                  go_wp2_with fail
                  refine Pu.regionW (fun W' => Below wr.drew.heap.size wr.drew W') hmx (by kernel_rfl) (by kernel_rfl) (Below.refl _ _) rfl ?_
                  iterate 11 (first
                    | (refine Pu.Walk.off (by rfl) ?_; simp only [Act.put, List.setIfInBounds_toArray, List.set_cons_succ, List.set_cons_zero])
                    | (apply Pu.Walk.on (by rfl)
                       · intro W1 h1
                         have g1a : W1.cell? ⟨b, o + j * 2, none⟩ = some (.string xs) := (Below.cell (p := ⟨b, o + j * 2, none⟩) h1 hb).trans g1
                         have g3a : W1.cell? ⟨b, o + i * 2, none⟩ = some (.string ys) := (Below.cell (p := ⟨b, o + i * 2, none⟩) h1 hb).trans g3
                         go_wp2_with fail
                         refine ⟨rfl, ?_, h1⟩
                         try simp only [Act.put, List.setIfInBounds_toArray, List.set_cons_succ, List.set_cons_zero]
                         rfl
                       simp only [Act.put, List.setIfInBounds_toArray, List.set_cons_succ, List.set_cons_zero]))
                  refine Pu.Walk.nil (fun W1 h1 => ?_)
                  have g2a : W1.cell? ⟨b, o + j * 2 + 1, none⟩ = some (.int .i64 xn) := (Below.cell (p := ⟨b, o + j * 2 + 1, none⟩) h1 hb).trans g2
                  have hBj1 : Below wo.heap.size wo W1 := (hBj.trans ((Below.refl wo.heap.size wr).drew)).trans (h1.mono hBj.size)
                  clear g1 g2 g3
                  go_wp2
                  go_ret2
                  exact ⟨⟨_, rfl, World.ownsRow_nil _ _ _ _⟩, hB.trans (hBj1.mono hB.size)⟩
                · have hdo : decide (1099511627776 < t + xn) = false := by simpa using hov
                  go_wp2_with fail
                  refine Pu.regionW (fun W' => Below wr.drew.heap.size wr.drew W') hmx (by kernel_rfl) (by kernel_rfl) (Below.refl _ _) rfl ?_
                  iterate 11 (first
                    | (refine Pu.Walk.off (by rfl) ?_; simp only [Act.put, List.setIfInBounds_toArray, List.set_cons_succ, List.set_cons_zero])
                    | (apply Pu.Walk.on (by rfl)
                       · intro W1 h1
                         have g1a : W1.cell? ⟨b, o + j * 2, none⟩ = some (.string xs) := (Below.cell (p := ⟨b, o + j * 2, none⟩) h1 hb).trans g1
                         have g3a : W1.cell? ⟨b, o + i * 2, none⟩ = some (.string ys) := (Below.cell (p := ⟨b, o + i * 2, none⟩) h1 hb).trans g3
                         go_wp2_with fail
                         refine ⟨rfl, ?_, h1⟩
                         try simp only [Act.put, List.setIfInBounds_toArray, List.set_cons_succ, List.set_cons_zero]
                         rfl
                       simp only [Act.put, List.setIfInBounds_toArray, List.set_cons_succ, List.set_cons_zero]))
                  refine Pu.Walk.nil (fun W1 h1 => ?_)
                  have g2a : W1.cell? ⟨b, o + j * 2 + 1, none⟩ = some (.int .i64 xn) := (Below.cell (p := ⟨b, o + j * 2 + 1, none⟩) h1 hb).trans g2
                  have hBj1 : Below wo.heap.size wo W1 := (hBj.trans ((Below.refl wo.heap.size wr).drew)).trans (h1.mono hBj.size)
                  clear g1 g2 g3
                  have HLV := Lib.hid (show t1 ≤ 1099511627776 by rw [HS2.out]; omega)
                  clear hov
                  go_wp2
                  go_roundw
                  case rel => exact ⟨j + 1, by omega, by go_num, by rw [HT1.out, HS2.out], by rw [HT1.out]; exact HLV.out, hBj1⟩
                  case measure => simp [intOf]; omega
              · rw [decide_eq_false hkk] at hks
                have HS2 := Lib.hid (show t1 = t by rw [HS.out, if_neg hkk, Int.add_zero])
                clear HS hkk
                go_wp2_with fail
                refine Pu.regionW (fun W' => Below wr.drew.heap.size wr.drew W') hmx (by kernel_rfl) (by kernel_rfl) (Below.refl _ _) rfl ?_
                iterate 11 (first
                  | (refine Pu.Walk.off (by rfl) ?_; simp only [Act.put, List.setIfInBounds_toArray, List.set_cons_succ, List.set_cons_zero])
                  | (apply Pu.Walk.on (by rfl)
                     · intro W1 h1
                       have g1a : W1.cell? ⟨b, o + j * 2, none⟩ = some (.string xs) := (Below.cell (p := ⟨b, o + j * 2, none⟩) h1 hb).trans g1
                       have g3a : W1.cell? ⟨b, o + i * 2, none⟩ = some (.string ys) := (Below.cell (p := ⟨b, o + i * 2, none⟩) h1 hb).trans g3
                       go_wp2_with fail
                       refine ⟨rfl, ?_, h1⟩
                       try simp only [Act.put, List.setIfInBounds_toArray, List.set_cons_succ, List.set_cons_zero]
                       rfl
                     simp only [Act.put, List.setIfInBounds_toArray, List.set_cons_succ, List.set_cons_zero]))
                refine Pu.Walk.nil (fun W1 h1 => ?_)
                have g2a : W1.cell? ⟨b, o + j * 2 + 1, none⟩ = some (.int .i64 xn) := (Below.cell (p := ⟨b, o + j * 2 + 1, none⟩) h1 hb).trans g2
                have hBj1 : Below wo.heap.size wo W1 := (hBj.trans ((Below.refl wo.heap.size wr).drew)).trans (h1.mono hBj.size)
                clear g1 g2 g3
                go_wp2
                go_roundw
                case rel => exact ⟨j + 1, by omega, by go_num, by rw [HT1.out, HS2.out], by rw [HT1.out, HS2.out]; exact hjt, hBj1⟩
                case measure => simp [intOf]; omega
            · obtain rfl : j = L.length := by omega
              have hdj : decide ((L.length : Int) < (L.length : Int)) = false := by simp
              simp only [List.take_length] at hjt ⊢
              have hOV2 := Lib.hid (show ∀ j (h : j < L.length), j < i + 1 → tot (key L[j]) L ≤ 1099511627776 from fun j h hj => by
                rcases Nat.lt_or_ge j i with h1 | h1
                · exact HOV.out j h h1
                · obtain rfl : j = i := by omega
                  exact hjt)
              have hPi := Lib.hid (HP.out i hil)
              have hKi := Lib.hid (HK.out i hil)
              have hown1 := row_below hown hBj
              have hB1 := hB.trans (hBj.mono hB.size)
              have hIr := hI.mono hB1 hB1.size
              obtain ⟨b, o, rfl, -, hb, g1, -⟩ := hIr.cellAt hil
              have hform := own_form hown1
              have cP := Lib.hid (fun (W : World) h1 => refput_calls (outN L i) L[i].1 (tot (key L[i]) L) u5 W h1 hform (by have := HOT.out; omega))
              clear hform hown
              generalize tot (key L[i]) L = t at *
              generalize L[i].1 = ys at *
              generalize outN L i = S at *
              generalize hS' : outN L (i + 1) = S' at *
              have HS' := Lib.hid hS'
              clear hS'
              by_cases ht : 0 < t
              · have hdt : decide (0 < t) = true := by simpa using ht
                have HPP := Lib.hid (hPi.out ht)
                rw [HPP.out] at cP
                clear ht HPP
                go_wp2_with (go_at_call 65; refine (cP.out _ ((ItemsAt.of_own hown1).wide (Nat.zero_le _) (Nat.le_refl _))).mono ?_; rintro e W2 ⟨⟨u, rfl, hu⟩, h2⟩)
                go_roundw
                case rel => exact ⟨i + 1, by omega, by go_num, hOV2.out, by rw [HS'.out]; exact ownsRow_wide hu hB1.size, hB1.trans (h2.mono hB1.size)⟩
                case measure => simp [intOf]; omega
              · have hdt : decide (0 < t) = false := by simpa using ht
                have HKK := Lib.hid (show S' = S from hKi.out (by omega))
                clear ht
                go_wp2
                go_roundw
                case rel => exact ⟨i + 1, by omega, by go_num, hOV2.out, by rw [HS'.out, HKK.out]; exact hown1, hB1⟩
                case measure => simp [intOf]; omega
        · obtain rfl : i = L.length := by omega
          have hdi : decide ((L.length : Int) < (L.length : Int)) = false := by simp
          have hno : over L = false := by
            cases h : over L with
            | false => rfl
            | true =>
              obtain ⟨x, hx, hd⟩ := List.any_eq_true.1 h
              obtain ⟨j, hj, rfl⟩ := List.getElem_of_mem hx
              rw [decide_eq_true_iff] at hd
              have := hov j hj hj
              omega
          have hlen := HOL.out L.length
          rw [outN_all] at hown hlen
          have HR2 := Lib.hid (show NR = if (normL L).length ≤ 16 then (normL L, 0) else ([], 3) by rw [HR.out, HC.out, HA.out, hno]; rfl)
          clear hno hov HR
          generalize normL L = O at *
          obtain ⟨A5, c5, rfl, -⟩ := (ItemsAt.of_own hown).form
          by_cases h16 : O.length ≤ 16
          · obtain rfl : NR = (O, 0) := by rw [HR2.out, if_pos h16]
            have hd : decide ((O.length : Int) > 16) = false := by simp; omega
            go_wp2
            go_ret2
            exact ⟨⟨_, rfl, hown⟩, hB⟩
          · obtain rfl : NR = ([], 3) := by rw [HR2.out, if_neg h16]
            have hd : decide ((O.length : Int) > 16) = true := by simp; omega
            go_wp2
            go_ret2
            exact ⟨⟨_, rfl, World.ownsRow_nil _ _ _ _⟩, hB⟩
end It
end Go.Proofs.Ytdbkkldgobkjcaa
