/-
  the document's answers on items: Norm.
  items: what the law's walk collects.
  items: what the laws Order, Parts and Walks say is true.
  parcels: the document's within.
  parcels: the document's set.
  parcels: the document's set, walked.
  parcels: the document's changes, in plain words.
-/
import Derived.Test.YtdbkkldgobkjcaaGreatMz15
import Derived.Test.YtdbkkldgobkjcaaGreatMz9
import Derived.Laws.OwnMore
import Derived.Deep.DeepMust

set_option linter.unusedVariables false
set_option linter.unusedSimpArgs false
namespace Go.Proofs.YtdbkkldgobkjcaaGreat
open Go.RowKit Go.Maps
namespace It

def outN (L : List Item) (i : Nat) : List Item := (ksOf ((L.take i).map key)).filterMap (pick L)
theorem outN_sorted (L : List Item) (i : Nat) : (outN L i).Pairwise fun a b => key a < key b := by
  unfold outN
  rw [List.pairwise_filterMap]
  refine (ksOf_sorted ((L.take i).map key)).imp_of_mem fun {a b} _ _ h x hx y hy => ?_
  rw [(pick_some hx).1, (pick_some hy).1]
  exact h
theorem outN_mem (L : List Item) (i : Nat) (x : Item) : x ∈ outN L i ↔ key x ∈ (L.take i).map key ∧ x.2 = tot (key x) L ∧ 0 < x.2 := by
  unfold outN
  rw [List.mem_filterMap]
  constructor
  · rintro ⟨k, hk, hx⟩
    obtain ⟨rfl, h2, h3⟩ := pick_some hx
    exact ⟨(ksOf_mem _ _).1 hk, h2, h3⟩
  · rintro ⟨h1, h2, h3⟩
    refine ⟨key x, (ksOf_mem _ _).2 h1, ?_⟩
    unfold pick
    rw [← h2, if_pos h3, ← item_eta]
theorem outN_len (L : List Item) (i : Nat) : (outN L i).length ≤ i := by
  refine Nat.le_trans (List.length_filterMap_le _ _) ?_
  have h : ∀ l : List Bs, (ksOf l).length ≤ l.length := by
    intro l
    induction l with
    | nil => simp [ksOf]
    | cons y l ih =>
      have hk : ∀ (k : Bs) (r : List Bs), (insK k r).length ≤ r.length + 1 := by
        intro k r
        induction r with
        | nil => simp [insK]
        | cons z r ih => unfold insK; split; · simp
                         split; · simp
                         simp only [List.length_cons]; omega
      have := hk y (ksOf l)
      unfold ksOf at ih this ⊢
      rw [List.foldr_cons, List.length_cons]
      omega
  refine Nat.le_trans (h _) ?_
  rw [List.length_map, List.length_take]
  omega
theorem outN_put {L : List Item} {i : Nat} (h : i < L.length) (ht : 0 < tot (key L[i]) L) : putL L[i].1 (tot (key L[i]) L) (outN L i) = outN L (i + 1) := by
  refine uniq (r := fun a b : Item => key a < key b) (fun _ => bs_irr _) (fun _ _ => bs_asy _ _) (putL_sorted _ _ _ (outN_sorted L i)) (outN_sorted L (i + 1)) fun x => ?_
  rw [putL_mem _ _ _ _ (outN_sorted L i), outN_mem, outN_mem, List.take_succ_eq_append_getElem h, List.map_append, List.mem_append, List.map_singleton, List.mem_singleton]
  have hk : L[i].1.data.toList = key L[i] := rfl
  rw [hk]
  constructor
  · rintro (rfl | ⟨⟨h1, h2, h3⟩, _⟩)
    · exact ⟨.inr rfl, rfl, ht⟩
    · exact ⟨.inl h1, h2, h3⟩
  · rintro ⟨h1, h2, h3⟩
    by_cases e : key x = key L[i]
    · left
      refine key_item _ _ e ?_
      rw [h2, e]
    · exact .inr ⟨⟨h1.resolve_right e, h2, h3⟩, e⟩
theorem outN_skip {L : List Item} {i : Nat} (h : i < L.length) (ht : ¬ 0 < tot (key L[i]) L) : outN L (i + 1) = outN L i := by
  refine uniq (r := fun a b : Item => key a < key b) (fun _ => bs_irr _) (fun _ _ => bs_asy _ _) (outN_sorted L (i + 1)) (outN_sorted L i) fun x => ?_
  rw [outN_mem, outN_mem, List.take_succ_eq_append_getElem h, List.map_append, List.mem_append, List.map_singleton, List.mem_singleton]
  constructor
  · rintro ⟨h1, h2, h3⟩
    refine ⟨h1.resolve_right fun e => ht ?_, h2, h3⟩
    rw [← e, ← h2]; exact h3
  · rintro ⟨h1, h2, h3⟩
    exact ⟨.inl h1, h2, h3⟩
theorem outN_all (L : List Item) : outN L L.length = normL L := by unfold outN normL; rw [List.take_length]
theorem tot_take_le {L : List Item} (h : L.all okC = true) (k : Bs) (j : Nat) : 0 ≤ tot k (L.take j) ∧ tot k (L.take j) ≤ tot k L := by
  have h1 : (L.take j).all okC = true := all_prefix (List.take_prefix _ _) h
  have h2 : (L.drop j).all okC = true := by
    rw [← List.take_append_drop j L, List.all_append, Bool.and_eq_true] at h
    exact h.2
  have h3 := tot_append k (L.take j) (L.drop j)
  rw [List.take_append_drop] at h3
  have := tot_nonneg k _ h1
  have := tot_nonneg k _ h2
  omega
theorem okC_false {L : List Item} {i : Nat} (h : i < L.length) (hf : okC L[i] = false) : L.all okC = false := by
  rw [List.all_eq_false]
  exact ⟨L[i], List.getElem_mem h, by simp [hf]⟩

theorem own_form {w : World} {lo : Nat} {e : TypeId} {size n : Nat} {v : Value} {xs : List Value} (h : w.ownsRow lo e size v n xs) : v = .slice none 0 0 ∨ ∃ b o n c, v = .slice (some ⟨b, o, none⟩) n c := by
  rcases h.2 with ⟨rfl, _⟩ | ⟨g, cap, cur, rfl, _⟩
  · rcases Nat.eq_zero_or_pos n with h0 | h0
    · exact .inl rfl
    · exact .inl rfl
  · exact .inr ⟨_, _, _, _, rfl⟩

set_option maxRecDepth 100000 in
set_option maxHeartbeats 8000000 in
theorem refnorm_calls (L : List Item) (v : Value) (w : World) (hI : ItemsAt w 0 w.heap.size v L) (hF : Fits L) (hL : L.length ≤ 1000000) :
    Calls Tryz.prog 93 #[v] w fun e w' =>
      (∃ u, e = .returned (.tuple #[u, .int .i64 (normRes L).2]) ∧ w'.ownsRow w.heap.size 37 2 u (normRes L).1.length (itemCells (normRes L).1)) ∧ Below w.heap.size w w' := by
  obtain ⟨A, c, rfl, hc1, hc2⟩ := hI.form
  unfold maxLen at hc2
  have hmx : Tryz.prog.follows .mixedOrders = true := by kernel_rfl
  have HR := Lib.hid (show normRes L = if sumsCode L = 0 then (if (normL L).length ≤ 16 then (normL L, 0) else ([], 3)) else ([], sumsCode L) from rfl)
  have HC := Lib.hid (show sumsCode L = if L.all okC then (if over L then 50 else 0) else 60 from rfl)
  generalize normRes L = NR at *
  go_enter Tryz.func93, Tryz.ntmps93
  go_wp2
  go_loop [4] (fun i => ∃ k : Nat, k ≤ L.length ∧ i = .int .i64 k ∧ (L.take k).all okC = true) (fun i => L.length - (intOf i).toNat)
  case atStart => exact ⟨0, by omega, rfl, rfl⟩
  case round =>
    obtain ⟨k, hk, rfl, hm⟩ := hrel
    by_cases hlt : k < L.length
    · obtain ⟨b, o, rfl, -, hb, g1, g2⟩ := hI.cellAt hlt
      have hfit := hF _ (List.getElem_mem hlt)
      have hd : decide ((k : Int) < (L.length : Int)) = true := by simp; omega
      have HS := Lib.hid (show (L.take (k + 1)).all okC = okC L[k] by rw [List.take_succ_eq_append_getElem hlt, all_snoc, hm, Bool.true_and])
      have HN := Lib.hid (fun h => okC_false hlt h)
      clear hm
      generalize L[k] = x at *
      obtain ⟨xs, xn⟩ := x
      dsimp only at g1 g2 hfit
      have HO := Lib.hid (show okC (xs, xn) = (good xs && countOk xn) from rfl)
      have cG := Lib.hid (fun W => refgood_calls xs W hfit.1)
      have cN := Lib.hid (fun W => refcount_calls xn W)
      generalize good xs = g at *
      generalize countOk xn = cn at *
      cases g
      · obtain rfl : NR = ([], 60) := by rw [HR.out, HC.out, HN.out (by rw [HO.out]; rfl)]; rfl
        go_wp2_with (first
          | (go_at_call 89; refine (cG.out _).mono ?_; rintro e W2 ⟨rfl, rfl⟩)
          | (go_at_call 90; refine (cN.out _).mono ?_; rintro e W2 ⟨rfl, rfl⟩))
        go_ret2
        exact ⟨⟨_, rfl, World.ownsRow_nil _ _ _ _⟩, Below.refl _ _⟩
      · cases cn
        · obtain rfl : NR = ([], 60) := by rw [HR.out, HC.out, HN.out (by rw [HO.out]; rfl)]; rfl
          go_wp2_with (first
            | (go_at_call 89; refine (cG.out _).mono ?_; rintro e W2 ⟨rfl, rfl⟩)
            | (go_at_call 90; refine (cN.out _).mono ?_; rintro e W2 ⟨rfl, rfl⟩))
          go_ret2
          exact ⟨⟨_, rfl, World.ownsRow_nil _ _ _ _⟩, Below.refl _ _⟩
        · have HS2 := Lib.hid (show (L.take (k + 1)).all okC = true by rw [HS.out, HO.out]; rfl)
          go_wp2_with (first
            | (go_at_call 89; refine (cG.out _).mono ?_; rintro e W2 ⟨rfl, rfl⟩)
            | (go_at_call 90; refine (cN.out _).mono ?_; rintro e W2 ⟨rfl, rfl⟩))
          go_round
          case rel => exact ⟨k + 1, by omega, by go_num, HS2.out⟩
          case measure => simp [intOf]; omega
    · obtain rfl : k = L.length := by omega
      rw [List.take_length] at hm
      have HA := Lib.hid hm
      have HT := Lib.hid (fun (q : Bs) (j : Nat) => tot_take_le hm q j)
      have HP := Lib.hid (fun (i : Nat) (h : i < L.length) (ht : 0 < tot (key L[i]) L) => outN_put h ht)
      have HK := Lib.hid (fun (i : Nat) (h : i < L.length) (ht : ¬ 0 < tot (key L[i]) L) => outN_skip h ht)
      have HOL := Lib.hid (fun i => outN_len L i)
      clear hm
      go_wp2
      go_loopw [5, 6, 7, 8] (fun o i _ _ wr => ∃ k : Nat, k ≤ L.length ∧ i = .int .i64 k ∧ (∀ j (h : j < L.length), j < k → tot (key L[j]) L ≤ 1099511627776) ∧ wr.ownsRow w.heap.size 37 2 o (outN L k).length (itemCells (outN L k)) ∧ Below w.heap.size w wr) (fun _ i _ _ _ => L.length - (intOf i).toNat)
      case atStart => exact ⟨0, by omega, rfl, fun j _ h => by omega, World.ownsRow_nil _ _ _ _, Below.refl _ _⟩
      case round =>
        obtain ⟨i, hi, rfl, hov, hown, hB⟩ := hrel
        by_cases hil : i < L.length
        · have hdi : decide ((i : Int) < (L.length : Int)) = true := by simp; omega
          have HOV := Lib.hid hov
          have HTK := Lib.hid (fun j => HT.out (key L[i]) j)
          have HOT := Lib.hid (HOL.out i)
          clear hov
          obtain ⟨wo, rfl⟩ : ∃ wo : World, wo = wr := ⟨_, rfl⟩
          go_wp2
          go_loopw [7, 8] (fun t q wr => ∃ j : Nat, j ≤ L.length ∧ q = .int .i64 j ∧ t = .int .i64 (tot (key L[i]) (L.take j)) ∧ tot (key L[i]) (L.take j) ≤ 1099511627776 ∧ Below wo.heap.size wo wr) (fun _ q _ => L.length - (intOf q).toNat)
          case atStart => exact ⟨0, by omega, rfl, rfl, by simp [tot], Below.refl _ _⟩
          case round =>
            obtain ⟨j, hj, rfl, rfl, hjt, hBj⟩ := hrel
            by_cases hjl : j < L.length
            · have hdj : decide ((j : Int) < (L.length : Int)) = true := by simp; omega
              have hIr := (hI.mono hB hB.size).mono hBj hBj.size
              obtain ⟨b, o, rfl, -, hb, g1, g2⟩ := hIr.cellAt hjl
              obtain ⟨b', o', e, -, hb', g3, -⟩ := hIr.cellAt hil
              cases e
              have hokj := (okC_le (x := L[j]) (List.all_eq_true.1 HA.out _ (List.getElem_mem hjl)))
              have HS := Lib.hid (show tot (key L[i]) (L.take (j + 1)) = tot (key L[i]) (L.take j) + (if key L[j] = key L[i] then L[j].2 else 0) by rw [List.take_succ_eq_append_getElem hjl, tot_snoc])
              have HLE := Lib.hid (HTK.out (j + 1))
              have HGE := HTK.out j
              have hgt := HGE.1
              have HOver := Lib.hid (show 1099511627776 < tot (key L[i]) (L.take (j + 1)) → over L = true from fun h => by
                refine List.any_eq_true.2 ⟨L[i], List.getElem_mem hil, ?_⟩
                rw [decide_eq_true_iff]
                have := HLE.out
                omega)
              clear HGE HTK
              generalize hti : tot (key L[i]) (L.take j) = t at *
              have hks : (L[j].1.toList == L[i].1.toList) = decide (key L[j] = key L[i]) := by
                rw [toList_key, toList_key]
                exact Bool.eq_iff_iff.2 (by simp [key])
              clear hti
              generalize ht1 : tot (key L[i]) (L.take (j + 1)) = t1 at *
              generalize L[i].1 = ys at *
              generalize key L[i] = ki at *
              have HT1 := Lib.hid ht1
              clear ht1
              generalize hxj : L[j] = x at *
              obtain ⟨xs, xn⟩ := x
              dsimp only at g1 g2 hokj hks
              by_cases hkk : key (xs, xn) = ki
              · rw [decide_eq_true hkk] at hks
                have HS2 := Lib.hid (show t1 = t + xn by rw [HS.out, if_pos hkk])
                clear HS hkk
                by_cases hov : 1099511627776 < t + xn
                · have hdo : decide (1099511627776 < t + xn) = true := by simpa using hov
                  obtain rfl : NR = ([], 50) := by rw [HR.out, HC.out, HA.out, HOver.out (by rw [HS2.out]; exact hov)]; rfl
                  go_wp2_with fail
                  refine Pu.regionW (fun W' => Below wr.drew.heap.size wr.drew W') hmx (by kernel_rfl) (by kernel_rfl) (Below.refl _ _) rfl ?_
                  iterate 11 (first
                    | (refine Pu.Walk.off (by rfl) ?_; simp only [Act.put, List.setIfInBounds_toArray, List.set_cons_succ, List.set_cons_zero])
                    | (apply Pu.Walk.on (by rfl)
                       · intro W1 h1
                         have g1a : W1.cell? ⟨b, o + j * 2, none⟩ = some (.string xs) := (Below.cell (p := ⟨b, o + j * 2, none⟩) h1 hb).trans g1
                         have g3a : W1.cell? ⟨b, o + i * 2, none⟩ = some (.string ys) := (Below.cell (p := ⟨b, o + i * 2, none⟩) h1 hb).trans g3
                         go_wp2_with fail
                         refine ⟨rfl, ?_, h1⟩
                         try simp only [Act.put, List.setIfInBounds_toArray, List.set_cons_succ, List.set_cons_zero]
                         rfl
                       simp only [Act.put, List.setIfInBounds_toArray, List.set_cons_succ, List.set_cons_zero]))
                  refine Pu.Walk.nil (fun W1 h1 => ?_)
                  have g2a : W1.cell? ⟨b, o + j * 2 + 1, none⟩ = some (.int .i64 xn) := (Below.cell (p := ⟨b, o + j * 2 + 1, none⟩) h1 hb).trans g2
                  have hBj1 : Below wo.heap.size wo W1 := (hBj.trans ((Below.refl wo.heap.size wr).drew)).trans (h1.mono hBj.size)
                  clear g1 g2 g3
                  go_wp2
                  go_ret2
                  exact ⟨⟨_, rfl, World.ownsRow_nil _ _ _ _⟩, hB.trans (hBj1.mono hB.size)⟩
                · have hdo : decide (1099511627776 < t + xn) = false := by simpa using hov
                  go_wp2_with fail
                  refine Pu.regionW (fun W' => Below wr.drew.heap.size wr.drew W') hmx (by kernel_rfl) (by kernel_rfl) (Below.refl _ _) rfl ?_
                  iterate 11 (first
                    | (refine Pu.Walk.off (by rfl) ?_; simp only [Act.put, List.setIfInBounds_toArray, List.set_cons_succ, List.set_cons_zero])
                    | (apply Pu.Walk.on (by rfl)
                       · intro W1 h1
                         have g1a : W1.cell? ⟨b, o + j * 2, none⟩ = some (.string xs) := (Below.cell (p := ⟨b, o + j * 2, none⟩) h1 hb).trans g1
                         have g3a : W1.cell? ⟨b, o + i * 2, none⟩ = some (.string ys) := (Below.cell (p := ⟨b, o + i * 2, none⟩) h1 hb).trans g3
                         go_wp2_with fail
                         refine ⟨rfl, ?_, h1⟩
                         try simp only [Act.put, List.setIfInBounds_toArray, List.set_cons_succ, List.set_cons_zero]
                         rfl
                       simp only [Act.put, List.setIfInBounds_toArray, List.set_cons_succ, List.set_cons_zero]))
                  refine Pu.Walk.nil (fun W1 h1 => ?_)
                  have g2a : W1.cell? ⟨b, o + j * 2 + 1, none⟩ = some (.int .i64 xn) := (Below.cell (p := ⟨b, o + j * 2 + 1, none⟩) h1 hb).trans g2
                  have hBj1 : Below wo.heap.size wo W1 := (hBj.trans ((Below.refl wo.heap.size wr).drew)).trans (h1.mono hBj.size)
                  clear g1 g2 g3
                  have HLV := Lib.hid (show t1 ≤ 1099511627776 by rw [HS2.out]; omega)
                  clear hov
                  go_wp2
                  go_roundw
                  case rel => exact ⟨j + 1, by omega, by go_num, by rw [HT1.out, HS2.out], by rw [HT1.out]; exact HLV.out, hBj1⟩
                  case measure => simp [intOf]; omega
              · rw [decide_eq_false hkk] at hks
                have HS2 := Lib.hid (show t1 = t by rw [HS.out, if_neg hkk, Int.add_zero])
                clear HS hkk
                go_wp2_with fail
                refine Pu.regionW (fun W' => Below wr.drew.heap.size wr.drew W') hmx (by kernel_rfl) (by kernel_rfl) (Below.refl _ _) rfl ?_
                iterate 11 (first
                  | (refine Pu.Walk.off (by rfl) ?_; simp only [Act.put, List.setIfInBounds_toArray, List.set_cons_succ, List.set_cons_zero])
                  | (apply Pu.Walk.on (by rfl)
                     · intro W1 h1
                       have g1a : W1.cell? ⟨b, o + j * 2, none⟩ = some (.string xs) := (Below.cell (p := ⟨b, o + j * 2, none⟩) h1 hb).trans g1
                       have g3a : W1.cell? ⟨b, o + i * 2, none⟩ = some (.string ys) := (Below.cell (p := ⟨b, o + i * 2, none⟩) h1 hb).trans g3
                       go_wp2_with fail
                       refine ⟨rfl, ?_, h1⟩
                       try simp only [Act.put, List.setIfInBounds_toArray, List.set_cons_succ, List.set_cons_zero]
                       rfl
                     simp only [Act.put, List.setIfInBounds_toArray, List.set_cons_succ, List.set_cons_zero]))
                refine Pu.Walk.nil (fun W1 h1 => ?_)
                have g2a : W1.cell? ⟨b, o + j * 2 + 1, none⟩ = some (.int .i64 xn) := (Below.cell (p := ⟨b, o + j * 2 + 1, none⟩) h1 hb).trans g2
                have hBj1 : Below wo.heap.size wo W1 := (hBj.trans ((Below.refl wo.heap.size wr).drew)).trans (h1.mono hBj.size)
                clear g1 g2 g3
                go_wp2
                go_roundw
                case rel => exact ⟨j + 1, by omega, by go_num, by rw [HT1.out, HS2.out], by rw [HT1.out, HS2.out]; exact hjt, hBj1⟩
                case measure => simp [intOf]; omega
            · obtain rfl : j = L.length := by omega
              have hdj : decide ((L.length : Int) < (L.length : Int)) = false := by simp
              simp only [List.take_length] at hjt ⊢
              have hOV2 := Lib.hid (show ∀ j (h : j < L.length), j < i + 1 → tot (key L[j]) L ≤ 1099511627776 from fun j h hj => by
                rcases Nat.lt_or_ge j i with h1 | h1
                · exact HOV.out j h h1
                · obtain rfl : j = i := by omega
                  exact hjt)
              have hPi := Lib.hid (HP.out i hil)
              have hKi := Lib.hid (HK.out i hil)
              have hown1 := row_below hown hBj
              have hB1 := hB.trans (hBj.mono hB.size)
              have hIr := hI.mono hB1 hB1.size
              obtain ⟨b, o, rfl, -, hb, g1, -⟩ := hIr.cellAt hil
              have hform := own_form hown1
              have cP := Lib.hid (fun (W : World) h1 => refput_calls (outN L i) L[i].1 (tot (key L[i]) L) u5 W h1 hform (by have := HOT.out; omega))
              clear hform hown
              generalize tot (key L[i]) L = t at *
              generalize L[i].1 = ys at *
              generalize outN L i = S at *
              generalize hS' : outN L (i + 1) = S' at *
              have HS' := Lib.hid hS'
              clear hS'
              by_cases ht : 0 < t
              · have hdt : decide (0 < t) = true := by simpa using ht
                have HPP := Lib.hid (hPi.out ht)
                rw [HPP.out] at cP
                clear ht HPP
                go_wp2_with (go_at_call 120; refine (cP.out _ ((ItemsAt.of_own hown1).wide (Nat.zero_le _) (Nat.le_refl _))).mono ?_; rintro e W2 ⟨⟨u, rfl, hu⟩, h2⟩)
                go_roundw
                case rel => exact ⟨i + 1, by omega, by go_num, hOV2.out, by rw [HS'.out]; exact ownsRow_wide hu hB1.size, hB1.trans (h2.mono hB1.size)⟩
                case measure => simp [intOf]; omega
              · have hdt : decide (0 < t) = false := by simpa using ht
                have HKK := Lib.hid (show S' = S from hKi.out (by omega))
                clear ht
                go_wp2
                go_roundw
                case rel => exact ⟨i + 1, by omega, by go_num, hOV2.out, by rw [HS'.out, HKK.out]; exact hown1, hB1⟩
                case measure => simp [intOf]; omega
        · obtain rfl : i = L.length := by omega
          have hdi : decide ((L.length : Int) < (L.length : Int)) = false := by simp
          have hno : over L = false := by
            cases h : over L with
            | false => rfl
            | true =>
              obtain ⟨x, hx, hd⟩ := List.any_eq_true.1 h
              obtain ⟨j, hj, rfl⟩ := List.getElem_of_mem hx
              rw [decide_eq_true_iff] at hd
              have := hov j hj hj
              omega
          have hlen := HOL.out L.length
          rw [outN_all] at hown hlen
          have HR2 := Lib.hid (show NR = if (normL L).length ≤ 16 then (normL L, 0) else ([], 3) by rw [HR.out, HC.out, HA.out, hno]; rfl)
          clear hno hov HR
          generalize normL L = O at *
          obtain ⟨A5, c5, rfl, -⟩ := (ItemsAt.of_own hown).form
          by_cases h16 : O.length ≤ 16
          · obtain rfl : NR = (O, 0) := by rw [HR2.out, if_pos h16]
            have hd : decide ((O.length : Int) > 16) = false := by simp; omega
            go_wp2
            go_ret2
            exact ⟨⟨_, rfl, hown⟩, hB⟩
          · obtain rfl : NR = ([], 3) := by rw [HR2.out, if_neg h16]
            have hd : decide ((O.length : Int) > 16) = true := by simp; omega
            go_wp2
            go_ret2
            exact ⟨⟨_, rfl, World.ownsRow_nil _ _ _ _⟩, hB⟩
end It
end Go.Proofs.YtdbkkldgobkjcaaGreat

namespace Go.Proofs.YtdbkkldgobkjcaaGreat
open Go.RowKit Go.Maps
namespace It
attribute [local go_sem] Oper.semAt_some

theorem eql_nil (b : Nat) (w : World) : (binOp .eql 145 (.func (.func 117) #[] #[.pointer (some ⟨b, 0, none⟩)]) .nilFunc).run Tryz.prog w = .ok (.bool false) w := by kernel_rfl

/-- how far a walk goes that stops at so many -/
def upTo (most : Int) (L : List Item) : List Item := if 1 ≤ most ∧ most ≤ L.length then L.take most.toNat else L

end It
end Go.Proofs.YtdbkkldgobkjcaaGreat

namespace Go.Proofs.YtdbkkldgobkjcaaGreat
open Go.RowKit Go.Maps
namespace It

set_option maxHeartbeats 400000 in
theorem refrest_calls (a b : List Item) (va vb : Value) (w : World) (ha : ItemsAt w 0 w.heap.size va a) (hb : ItemsAt w 0 w.heap.size vb b) (hla : a.length ≤ 1000000) :
    Calls Tryz.prog 23 #[va, vb] w fun e w' =>
      (∃ v, e = .returned v ∧ w'.ownsRow w.heap.size 37 2 v (eachL restF a b).length (itemCells (eachL restF a b))) ∧ Below w.heap.size w w' := by
  have cE := Lib.hid (refboth_calls 2 restF (.inr ⟨rfl, rfl⟩) a b va vb w ha hb hla)
  obtain ⟨A, c, rfl, -⟩ := ha.form
  obtain ⟨A', c', rfl, -⟩ := hb.form
  generalize eachL restF a b = R at *
  go_enter Tryz.func23, Tryz.ntmps23
  go_wp2_with fail
  refine cE.out.mono ?_
  rintro e w1 ⟨⟨v, rfl, h1⟩, h2⟩
  obtain ⟨A1, c1, rfl, -⟩ := (ItemsAt.of_own h1).form
  go_wp2
  go_ret
  exact ⟨⟨_, rfl, h1⟩, h2⟩

theorem M.fits {l : List Item} (h : M l) : Fits l := fun x hx => by
  have h1 := h.ok x hx
  have h2 := h1.1
  unfold good at h2
  simp only [Bool.and_eq_true, decide_eq_true_eq] at h2
  refine ⟨Nat.le_trans h2.2 (by unfold maxLen; omega), by omega, by omega⟩

end It
end Go.Proofs.YtdbkkldgobkjcaaGreat

namespace Go.Proofs.YtdbkkldgobkjcaaGreat
open Go.RowKit Go.Maps
namespace Pc
open It Mv

theorem within_doc {all a b : List It.Item} (hall : M all) (ha : M a) (hb : M b) : withinOf all a b = if (normRes (a ++ b)).2 = 0 ∧ (eachL restF (normRes (a ++ b)).1 all).length = 0 then ((normRes (a ++ b)).1, 0) else ([], 50) := by
  have e1 : plusOf a b = normRes (a ++ b) := by
    unfold plusOf
    rw [(may_iff a).2 ha, (may_iff b).2 hb]
    rfl
  unfold withinOf
  rw [e1]
  by_cases h : (normRes (a ++ b)).2 = 0
  · have hM := normRes_M h
    have e2 : covers all (normRes (a ++ b)).1 = ((eachL restF (normRes (a ++ b)).1 all).length == 0) := by
      unfold covers
      rw [(may_iff all).2 hall, (may_iff _).2 hM, both_of hM hall]
      rfl
    rw [e2]
    simp [h]
  · rw [if_neg (fun hh => h hh.1), if_neg (fun hh => h hh.1)]

set_option maxRecDepth 100000 in
set_option maxHeartbeats 4000000 in
theorem refwithin_calls (all a b : List It.Item) (v va vb : Value) (w : World) (h : ItemsAt w 0 w.heap.size v all) (ha : ItemsAt w 0 w.heap.size va a) (hb : ItemsAt w 0 w.heap.size vb b) (hM : M all) (hMa : M a) (hMb : M b) :
    Calls Tryz.prog 49 #[v, va, vb] w fun e w' =>
      (∃ u, e = .returned (.tuple #[u, .bool (decide ((withinOf all a b).2 = 0))]) ∧ w'.ownsRow w.heap.size 37 2 u (withinOf all a b).1.length (itemCells (withinOf all a b).1)) ∧ Below w.heap.size w w' := by
  obtain ⟨i0, hi0, hz0⟩ := Option.map_eq_some_iff.1 item_info
  simp only [Prod.mk.injEq] at hz0
  obtain ⟨hz0, hz1, hz2⟩ := hz0
  have HW := Lib.hid (within_doc hM hMa hMb)
  have hla := hMa.len
  have hlb := hMb.len
  have HA := Lib.hid ha
  have HB := Lib.hid hb
  have HV := Lib.hid h
  have HFa := Lib.hid (Fits.append (fits_of hMa) (fits_of hMb))
  have HMR := Lib.hid (fun hh : (normRes (a ++ b)).2 = 0 => (normRes_M hh).len)
  generalize withinOf all a b = R at *
  obtain ⟨A, c, rfl, -⟩ := h.form
  obtain ⟨Aa, ca, rfl, hca1, hca2⟩ := ha.form
  obtain ⟨Ab, cb, rfl, hcb1, hcb2⟩ := hb.form
  unfold maxLen at hca2 hcb2
  have hbE := (Below.refl w.heap.size w).alloc (Nat.le_refl _) (.cells #[] 37)
  have hownE := World.ownsRow_lit (e := 37) (size := 2) (base := w.heap.size) w #[] 0 (Nat.le_refl _) (Nat.zero_le _) rfl
  clear h ha hb hM hMa hMb
  go_enter Tryz.func49, Tryz.ntmps49
  go_wp2_with (at_builtin; first
    | (refine wpList_append_sl _ rfl (.tmp 11) (.tmp 12) _ rfl w.heap.size 37 i0 _ 2 24 Tryz.underlying30 hi0 hz0 hz1 hz2 rfl (by omega) (.slice (some ⟨w.heap.size, 0, none⟩) 0 0) 0 [] rfl hownE 0 w.heap.size _ a.length (itemCells a) rfl (Sl.below HA.out hbE) (itemCells_one a) (by unfold maxLen; omega) (by omega) (by simp) ?_; intro v1 w1 hv1 hg1 hat1; have hv1' : w1.ownsRow w.heap.size 37 2 v1 a.length (itemCells a) := (by simpa using hv1); have hb1 := hbE.grown hg1 hbE.size (fun g hg => (hownE.lt g hg).1); clear hv1 hg1 hat1)
    | (refine wpList_append_sl _ rfl (.tmp 13) (.tmp 14) _ rfl w.heap.size 37 i0 _ 2 24 Tryz.underlying30 hi0 hz0 hz1 hz2 rfl (by omega) v1 a.length (itemCells a) rfl hv1' 0 w.heap.size _ b.length (itemCells b) rfl (Sl.below HB.out hb1) (itemCells_one b) (by unfold maxLen; omega) (by omega) hb1.size ?_; intro v2 w2 hv2 hg2 hat2; have hv2' : w2.ownsRow w.heap.size 37 2 v2 (a ++ b).length (itemCells (a ++ b)) := (by rw [List.length_append, itemCells_append]; exact hv2); have hb2 := hb1.grown hg2 hb1.size (fun g hg => (hv1'.lt g hg).1); clear hv2 hg2 hat2))
  have cN := Lib.hid (refnorm_calls (a ++ b) v2 w2 (toAt hv2') HFa.out (by rw [List.length_append]; omega))
  generalize normRes (a ++ b) = S at *
  obtain ⟨sl, sc⟩ := S
  dsimp only at cN HW HMR
  refine cN.out.mono ?_
  rintro e W ⟨⟨vs, rfl, hs⟩, hb3⟩
  have hbW := hb2.trans (hb3.mono hb2.size)
  have HS := Lib.hid (ownsRow_wide hs hb2.size)
  obtain ⟨As, cs, rfl, -⟩ := (toAt hs).form
  by_cases hc : sc = 0
  · subst hc
    have cR := Lib.hid (refrest_calls sl all _ _ W (toAt hs) (HV.out.mono hbW hbW.size) (by have := HMR.out rfl; omega))
    clear hs cN
    go_wp2_with fail
    refine cR.out.mono ?_
    rintro e W2 ⟨⟨u, rfl, hu⟩, hb4⟩
    have hbW2 := hbW.trans (hb4.mono hbW.size)
    obtain ⟨Au, cu, rfl, -⟩ := (toAt hu).form
    by_cases hl : (eachL restF sl all).length = 0
    · obtain rfl : R = (sl, 0) := by rw [HW.out, if_pos ⟨trivial, hl⟩]
      rw [hl]
      clear hu hl
      go_wp2
      go_ret2
      exact ⟨⟨_, rfl, row_below HS.out hb4⟩, hbW2⟩
    · obtain rfl : R = ([], 50) := by rw [HW.out, if_neg (fun h => hl h.2)]
      have hl2 : 0 < (eachL restF sl all).length := by omega
      have hd : decide (((eachL restF sl all).length : Int) > 0) = true := by simp; omega
      generalize (eachL restF sl all).length = n at *
      clear hu hl
      go_wp2
      go_ret2
      exact ⟨⟨_, rfl, World.ownsRow_nil _ _ _ _⟩, hbW2⟩
  · obtain rfl : R = ([], 50) := by rw [HW.out, if_neg (fun h => hc h.1)]
    have hcb : (sc != 0) = true := by simpa using hc
    clear hs cN
    go_wp2
    go_ret2
    exact ⟨⟨_, rfl, World.ownsRow_nil _ _ _ _⟩, hbW⟩
end Pc
end Go.Proofs.YtdbkkldgobkjcaaGreat

namespace Go.Proofs.YtdbkkldgobkjcaaGreat
open Go.RowKit Go.Maps
namespace Pc
open It Mv

theorem row_info : (Tryz.prog.info? 46).map (fun i => (i.zero, i.size, i.bytes)) = some (some (.agg #[.int .i64 0, .slice none 0 0, .slice none 0 0, .slice none 0 0, .bool false, .bool false, .bool false, .bool false, .bool false, .bool false, .bool false, .bool false]), 12, 88) := by kernel_rfl
theorem rowCs_one {es : List DR} (h : ∀ p ∈ es, (∃ A n c, p.v1 = .slice A n c) ∧ (∃ A n c, p.v2 = .slice A n c) ∧ (∃ A n c, p.v3 = .slice A n c)) : ∀ y ∈ rowCs es, y.oneCell' = true := by
  intro y hy
  obtain ⟨p, hp, hy⟩ := List.mem_flatMap.1 hy
  obtain ⟨⟨A1, n1, c1, e1⟩, ⟨A2, n2, c2, e2⟩, ⟨A3, n3, c3, e3⟩⟩ := h p hp
  simp only [rowC, List.mem_cons, List.not_mem_nil, or_false] at hy
  rcases hy with rfl | rfl | rfl | rfl | rfl | rfl | rfl | rfl | rfl | rfl | rfl | rfl
  · rfl
  · rw [e1]; rfl
  · rw [e2]; rfl
  · rw [e3]; rfl
  all_goals rfl
theorem LiAt.form {w : World} {F : Nat → Prop} {v : Value} {l : List It.Item} (h : LiAt w F v l) : ∃ A n c, v = .slice A n c := by
  obtain ⟨A, c, e, -⟩ := h.items.form
  exact ⟨A, _, c, e⟩
theorem DocP.one {w : World} {xb base : Nat} {Y : Nat → Prop} {es : List DR} (h : DocP w xb base Y es) : ∀ y ∈ rowCs es, y.oneCell' = true :=
  rowCs_one fun p hp => ⟨(h.nest p hp).1.form, (h.nest p hp).2.1.form, (h.nest p hp).2.2.form⟩
def set12 (l : List Value) (k : Nat) (p : DR) : List Value :=
  (((((((((((l.set k (.int .i64 p.d.od)).set (k + 1) p.v1).set (k + 2) p.v2).set (k + 3) p.v3).set (k + 4) (.bool (isIn p.d 0))).set (k + 5) (.bool (isIn p.d 1))).set (k + 6) (.bool (isIn p.d 2))).set (k + 7) (.bool (isIn p.d 3))).set (k + 8) (.bool (isIn p.d 4))).set (k + 9) (.bool (isIn p.d 5))).set (k + 10) (.bool (isIn p.d 6))).set (k + 11) (.bool (isIn p.d 7))
theorem set_skip (a b : List Value) (k : Nat) (v : Value) : (a ++ b).set (a.length + k) v = a ++ b.set k v := by
  rw [List.set_append_right _ _ (by omega), Nat.add_sub_cancel_left]
theorem rowCs_set : ∀ (es : List DR) (i : Nat) (h : i < es.length) (p : DR), rowCs (es.set i p) = set12 (rowCs es) (i * 12) p
  | q :: r, 0, _, p => rfl
  | q :: r, i + 1, h, p => by
    have := rowCs_set r i (by simpa using h) p
    have e : (i + 1) * 12 = 12 + i * 12 := by omega
    simp only [rowCs, List.set_cons_succ, List.flatMap_cons] at this ⊢
    rw [this, e]
    have h12 : ∀ (l : List Value) (k : Nat) (v : Value), (rowC q ++ l).set (12 + k) v = rowC q ++ l.set k v := fun l k v => set_skip (rowC q) l k v
    unfold set12
    simp only [Nat.add_assoc, h12]

/-- a row of the call's own, twelve cells stored -/
theorem own12 {w : World} {base g cap n : Nat} {e : TypeId} {xs : List Value} (h : w.ownsRow base e 12 (.slice (some ⟨g, 0, none⟩) n cap) n xs) (k : Nat) (x0 x1 x2 x3 x4 x5 x6 x7 x8 x9 x10 x11 : Value) :
    ∃ w', w' = (((((((((((w.setCell ⟨g, k, none⟩ x0).setCell ⟨g, k + 1, none⟩ x1).setCell ⟨g, k + 2, none⟩ x2).setCell ⟨g, k + 3, none⟩ x3).setCell ⟨g, k + 4, none⟩ x4).setCell ⟨g, k + 5, none⟩ x5).setCell ⟨g, k + 6, none⟩ x6).setCell ⟨g, k + 7, none⟩ x7).setCell ⟨g, k + 8, none⟩ x8).setCell ⟨g, k + 9, none⟩ x9).setCell ⟨g, k + 10, none⟩ x10).setCell ⟨g, k + 11, none⟩ x11 ∧
      w'.ownsRow base e 12 (.slice (some ⟨g, 0, none⟩) n cap) n ((((((((((((xs.set k x0).set (k + 1) x1).set (k + 2) x2).set (k + 3) x3).set (k + 4) x4).set (k + 5) x5).set (k + 6) x6).set (k + 7) x7).set (k + 8) x8).set (k + 9) x9).set (k + 10) x10).set (k + 11) x11) ∧ w.grownBy w' (some g) := by
  obtain ⟨a0, b0⟩ := h.stored k x0
  obtain ⟨a1, b1⟩ := a0.stored (k + 1) x1
  obtain ⟨a2, b2⟩ := a1.stored (k + 2) x2
  obtain ⟨a3, b3⟩ := a2.stored (k + 3) x3
  obtain ⟨a4, b4⟩ := a3.stored (k + 4) x4
  obtain ⟨a5, b5⟩ := a4.stored (k + 5) x5
  obtain ⟨a6, b6⟩ := a5.stored (k + 6) x6
  obtain ⟨a7, b7⟩ := a6.stored (k + 7) x7
  obtain ⟨a8, b8⟩ := a7.stored (k + 8) x8
  obtain ⟨a9, b9⟩ := a8.stored (k + 9) x9
  obtain ⟨a10, b10⟩ := a9.stored (k + 10) x10
  obtain ⟨a11, b11⟩ := a10.stored (k + 11) x11
  exact ⟨_, rfl, a11, b0.trans (b1.trans (b2.trans (b3.trans (b4.trans (b5.trans (b6.trans (b7.trans (b8.trans (b9.trans (b10.trans b11))))))))))⟩
end Pc
end Go.Proofs.YtdbkkldgobkjcaaGreat

namespace Go.Proofs.YtdbkkldgobkjcaaGreat
open Go.RowKit Go.Maps
namespace Pc
open It Mv

def rowA (p : DR) : Value := .agg #[.int .i64 p.d.od, p.v1, p.v2, p.v3, .bool (isIn p.d 0), .bool (isIn p.d 1), .bool (isIn p.d 2), .bool (isIn p.d 3), .bool (isIn p.d 4), .bool (isIn p.d 5), .bool (isIn p.d 6), .bool (isIn p.d 7)]

theorem cells12 {w : World} {base g cap i : Nat} {e : TypeId} {es : List DR} (h : w.ownsRow base e 12 (.slice (some ⟨g, 0, none⟩) es.length cap) es.length (rowCs es)) (hi : i < es.length) :
    ∃ z0 z1 z2 z3 z4 z5 z6 z7 z8 z9 z10 z11, w.cell? ⟨g, i * 12, none⟩ = some z0 ∧ w.cell? ⟨g, i * 12 + 1, none⟩ = some z1 ∧ w.cell? ⟨g, i * 12 + 2, none⟩ = some z2 ∧ w.cell? ⟨g, i * 12 + 3, none⟩ = some z3 ∧ w.cell? ⟨g, i * 12 + 4, none⟩ = some z4 ∧ w.cell? ⟨g, i * 12 + 5, none⟩ = some z5 ∧ w.cell? ⟨g, i * 12 + 6, none⟩ = some z6 ∧ w.cell? ⟨g, i * 12 + 7, none⟩ = some z7 ∧ w.cell? ⟨g, i * 12 + 8, none⟩ = some z8 ∧ w.cell? ⟨g, i * 12 + 9, none⟩ = some z9 ∧ w.cell? ⟨g, i * 12 + 10, none⟩ = some z10 ∧ w.cell? ⟨g, i * 12 + 11, none⟩ = some z11 := by
  have g' := fun k (hk : k < 12) => (h.cellAt (i * 12 + k) (by omega)).trans (rowCs_get es i k hi hk)
  exact ⟨_, _, _, _, _, _, _, _, _, _, _, _, g' 0 (by omega), g' 1 (by omega), g' 2 (by omega), g' 3 (by omega), g' 4 (by omega), g' 5 (by omega), g' 6 (by omega), g' 7 (by omega), g' 8 (by omega), g' 9 (by omega), g' 10 (by omega), g' 11 (by omega)⟩
theorem frozen12 {w : World} {base g cap n : Nat} {e : TypeId} {xs : List Value} (h : w.ownsRow base e 12 (.slice (some ⟨g, 0, none⟩) n cap) n xs) (i : Nat) :
    w.frozen? ⟨g, i * 12, none⟩ = false ∧ w.frozen? ⟨g, i * 12 + 1, none⟩ = false ∧ w.frozen? ⟨g, i * 12 + 2, none⟩ = false ∧ w.frozen? ⟨g, i * 12 + 3, none⟩ = false ∧ w.frozen? ⟨g, i * 12 + 4, none⟩ = false ∧ w.frozen? ⟨g, i * 12 + 5, none⟩ = false ∧ w.frozen? ⟨g, i * 12 + 6, none⟩ = false ∧ w.frozen? ⟨g, i * 12 + 7, none⟩ = false ∧ w.frozen? ⟨g, i * 12 + 8, none⟩ = false ∧ w.frozen? ⟨g, i * 12 + 9, none⟩ = false ∧ w.frozen? ⟨g, i * 12 + 10, none⟩ = false ∧ w.frozen? ⟨g, i * 12 + 11, none⟩ = false :=
  ⟨h.frozenAt _, h.frozenAt _, h.frozenAt _, h.frozenAt _, h.frozenAt _, h.frozenAt _, h.frozenAt _, h.frozenAt _, h.frozenAt _, h.frozenAt _, h.frozenAt _, h.frozenAt _⟩
theorem _root_.Go.Proofs.YtdbkkldgobkjcaaGreat.Ob.twelve {w : World} {b : Nat} {t : TypeId} {x0 x1 x2 x3 x4 x5 x6 x7 x8 x9 x10 x11 : Value} (h : Ob w b t #[x0, x1, x2, x3, x4, x5, x6, x7, x8, x9, x10, x11]) :
    w.cell? ⟨b, 0, none⟩ = some x0 ∧ w.cell? ⟨b, 1, none⟩ = some x1 ∧ w.cell? ⟨b, 2, none⟩ = some x2 ∧ w.cell? ⟨b, 3, none⟩ = some x3 ∧ w.cell? ⟨b, 4, none⟩ = some x4 ∧ w.cell? ⟨b, 5, none⟩ = some x5 ∧ w.cell? ⟨b, 6, none⟩ = some x6 ∧ w.cell? ⟨b, 7, none⟩ = some x7 ∧ w.cell? ⟨b, 8, none⟩ = some x8 ∧ w.cell? ⟨b, 9, none⟩ = some x9 ∧ w.cell? ⟨b, 10, none⟩ = some x10 ∧ w.cell? ⟨b, 11, none⟩ = some x11 :=
  ⟨h.cell (j := 0) rfl, h.cell (j := 1) rfl, h.cell (j := 2) rfl, h.cell (j := 3) rfl, h.cell (j := 4) rfl, h.cell (j := 5) rfl, h.cell (j := 6) rfl, h.cell (j := 7) rfl, h.cell (j := 8) rfl, h.cell (j := 9) rfl, h.cell (j := 10) rfl, h.cell (j := 11) rfl⟩

set_option maxRecDepth 100000 in
set_option maxHeartbeats 8000000 in
theorem set_calls (i : Nat) (p : DR) (xb base : Nat) (Y : Nat → Prop) (es : List DR) (w : World) (h : DocP w xb base Y es) (hB : base ≤ w.heap.size) (hi : i < es.length) (hp : LiAt w (fun i => i ≠ xb ∧ ¬ Y i) p.v1 p.d.wa ∧ LiAt w (fun i => i ≠ xb ∧ ¬ Y i) p.v2 p.d.sh ∧ LiAt w (fun i => i ≠ xb ∧ ¬ Y i) p.v3 p.d.ba) (hlen : es.length ≤ 1099511627776) :
    Calls Tryz.prog 50 #[.pointer (some ⟨xb, 0, none⟩), .int .i64 i, rowA p] w fun e w' => e = .returned (.tuple #[]) ∧ DocP w' xb base Y (es.set i p) ∧ w.grownBy w' (some xb) := by
  obtain ⟨i0, hi0, hz0⟩ := Option.map_eq_some_iff.1 row_info
  simp only [Prod.mk.injEq] at hz0
  obtain ⟨hz0, hz1, hz2⟩ := hz0
  obtain ⟨v, hx, hv, hnY⟩ := h.ob
  have H := Lib.hid h
  have hone := Lib.hid h.one
  have HP := Lib.hid hp
  obtain ⟨A, c, rfl, hc1, hc2, -⟩ := (Sl.of_own hv).at_
  unfold maxLen at hc2
  have HS := Lib.hid (Sl.of_own hv)
  obtain ⟨P1, p1, c1, e1⟩ := hp.1.form
  obtain ⟨P2, p2, c2', e2⟩ := hp.2.1.form
  obtain ⟨P3, p3, c3, e3⟩ := hp.2.2.form
  obtain ⟨d, v1, v2, v3⟩ := p
  dsimp only at e1 e2 e3
  subst e1 e2 e3
  dsimp only [rowA]
  have hset := rowCs_set es i hi ⟨d, .slice P1 p1 c1, .slice P2 p2 c2', .slice P3 p3 c3⟩
  unfold set12 at hset
  dsimp only at hset
  have HSET := Lib.hid hset
  have hdl : decide ((i : Int) < (es.length : Int)) = true := by simp; omega
  have hal := (Below.refl w.heap.size w).alloc (Nat.le_refl _) (.cells #[.int .i64 d.od, .slice P1 p1 c1, .slice P2 p2 c2', .slice P3 p3 c3, .bool (isIn d 0), .bool (isIn d 1), .bool (isIn d 2), .bool (isIn d 3), .bool (isIn d 4), .bool (isIn d 5), .bool (isIn d 6), .bool (isIn d 7)] 46)
  have hO := Ob.new w 46 #[.int .i64 d.od, .slice P1 p1 c1, .slice P2 p2 c2', .slice P3 p3 c3, .bool (isIn d 0), .bool (isIn d 1), .bool (isIn d 2), .bool (isIn d 3), .bool (isIn d 4), .bool (isIn d 5), .bool (isIn d 6), .bool (isIn d 7)]
  generalize isIn d 0 = b0 at *
  generalize isIn d 1 = b1 at *
  generalize isIn d 2 = b2 at *
  generalize isIn d 3 = b3 at *
  generalize isIn d 4 = b4 at *
  generalize isIn d 5 = b5 at *
  generalize isIn d 6 = b6 at *
  generalize isIn d 7 = b7 at *
  clear hset hv hp h
  go_enter Tryz.func50, Tryz.ntmps50
  have hx1 := hx.alloc (.cells #[.int .i64 d.od, .slice P1 p1 c1, .slice P2 p2 c2', .slice P3 p3 c3, .bool b0, .bool b1, .bool b2, .bool b3, .bool b4, .bool b5, .bool b6, .bool b7] 46)
  have hx2 := hx1.alloc (.cells #[] 46)
  have hO2 := hO.alloc (.cells #[] 46)
  have hal2 := hal.alloc hal.size (.cells #[] 46)
  have hownE := World.ownsRow_lit (e := 46) (size := 12) (base := w.heap.size) (w.alloc (.cells #[.int .i64 d.od, .slice P1 p1 c1, .slice P2 p2 c2', .slice P3 p3 c3, .bool b0, .bool b1, .bool b2, .bool b3, .bool b4, .bool b5, .bool b6, .bool b7] 46)) #[] 0 (by simp) (Nat.zero_le _) rfl
  rw [World.size_alloc] at hownE
  have hxl := hx.lt
  have g0 := hx2.cell (j := 0) (v := .slice A es.length c) rfl
  go_wp2_with (at_builtin; go_must (refine wpList_append_sl _ rfl (.tmp 7) (.tmp 11) _ rfl w.heap.size 46 i0 _ 12 88 Tryz.underlying26 hi0 hz0 hz1 hz2 rfl (by omega) (.slice (some ⟨w.heap.size + 1, 0, none⟩) 0 0) 0 [] rfl hownE base w.heap.size _ es.length (rowCs es) rfl (Sl.below HS.out hal2) hone.out (by unfold maxLen; omega) (by omega) (by simp; omega) ?_; intro v1 w1 hv1 hg1 hat1; have hB1 : Below w.heap.size w w1 := hal2.grown hg1 hal2.size (fun g hg => (hownE.lt g hg).1); have hown : w1.ownsRow w.heap.size 46 12 v1 es.length (rowCs es) := (by simpa using hv1); have hx3 := hx2.kept hg1 (fun e => by have := (hownE.lt xb e.symm).1; omega); have hO3 := hO2.kept hg1 (fun e => by have e2 : w.heap.size = w.heap.size + 1 := Option.some.inj e; omega); obtain ⟨g, cap, rfl, hgl, hgs⟩ := World.ownsRow.form hown (show 0 < es.length by omega); obtain ⟨z0, z1, z2, z3, z4, z5, z6, z7, z8, z9, z10, z11, m0, m1, m2, m3, m4, m5, m6, m7, m8, m9, m10, m11⟩ := cells12 hown hi; obtain ⟨f0, f1, f2, f3, f4, f5, f6, f7, f8, f9, f10, f11⟩ := frozen12 hown i; obtain ⟨o0, o1, o2, o3, o4, o5, o6, o7, o8, o9, o10, o11⟩ := hO3.twelve; have gx := hx3.cell (j := 0) (v := .slice A es.length c) rfl; have fx := hx3.frozen 0; clear hv1 hg1 hat1))
  go_end0
  obtain ⟨w12, e12, hrow, hg12⟩ := own12 hown (i * 12) (.int .i64 d.od) (.slice P1 p1 c1) (.slice P2 p2 c2') (.slice P3 p3 c3) (.bool b0) (.bool b1) (.bool b2) (.bool b3) (.bool b4) (.bool b5) (.bool b6) (.bool b7)
  rw [← e12]
  have hB12 := hB1.grown hg12 hB1.size (fun k e => by cases e; exact hgl)
  have hx12 := (hx3.kept hg12 (fun e => by have := Option.some.inj e; omega)).set 0 (.slice (some ⟨g, 0, none⟩) es.length cap)
  have hgx := grownBy_set w12 xb 0 (.slice (some ⟨g, 0, none⟩) es.length cap)
  have hgw := (only_of_below hB12 (some xb)).trans hgx
  have hrow2 := ownsRow_wide (ownsRow_far hrow hgx hxl) hB
  have hk : Kept (fun i => i < w.heap.size ∧ i ≠ xb) w (w12.setCell ⟨xb, 0, none⟩ (.slice (some ⟨g, 0, none⟩) es.length cap)) := Kept.of_grown hgw fun i hi => ⟨hi.1, fun e => hi.2 (Option.some.inj e)⟩
  have hF : ∀ i, i < w.heap.size → (i ≠ xb ∧ ¬ Y i) → (i < w.heap.size ∧ i ≠ xb) ∧ (i ≠ xb ∧ ¬ Y i) := fun i hi hh => ⟨⟨hi, hh.1⟩, hh⟩
  refine ⟨rfl, ⟨⟨_, hx12, ?_, fun k hk => ?_⟩, fun q hq => ?_, H.out.nx, fun i hi => Nat.lt_of_lt_of_le (H.out.yl i hi) hgw.size⟩, hgw⟩
  · rw [List.length_set, HSET.out]
    exact hrow2
  · have : g = k := by simpa [Value.ownBlock] using hk
    exact fun hy => by have := H.out.yl k hy; omega
  · rcases List.mem_or_eq_of_mem_set hq with hq | rfl
    · obtain ⟨n1, n2, n3⟩ := H.out.nest q hq
      exact ⟨n1.keep hk hF, n2.keep hk hF, n3.keep hk hF⟩
    · exact ⟨HP.out.1.keep hk hF, HP.out.2.1.keep hk hF, HP.out.2.2.keep hk hF⟩
end Pc
end Go.Proofs.YtdbkkldgobkjcaaGreat

namespace Go.Proofs.YtdbkkldgobkjcaaGreat
open Go.RowKit Go.Maps
namespace Pc
open It Mv

theorem ins_firstR {d : Row} {ds : List Row} (h : ∀ c ∈ ds, d.od < c.od) : insR d ds = d :: ds := by
  cases ds with
  | nil => rfl
  | cons c r => rw [insR, if_pos (h c (by simp))]
abbrev SortedR (ds : List Row) : Prop := ds.Pairwise fun c d => c.od < d.od
theorem put_setR {d : Row} : ∀ {ds : List Row}, SortedR ds → ∀ (i : Nat) (h : i < ds.length), ds[i].od = d.od → putR ds d = ds.set i d
  | c :: r, hp, 0, _, he => by
    replace hp := List.pairwise_cons.1 hp
    have he : c.od = d.od := he
    have h1 : delR (c :: r) d.od = r := by
      unfold delR
      rw [List.filter_cons, if_neg (by simp [he]), List.filter_eq_self]
      intro x hx
      have := hp.1 x hx
      simp
      omega
    unfold putR
    rw [h1, ins_firstR (fun x hx => by have := hp.1 x hx; omega)]
    rfl
  | c :: r, hp, i + 1, h, he => by
    replace hp := List.pairwise_cons.1 hp
    have hi : i < r.length := by simpa using h
    have he : r[i].od = d.od := he
    have hc := hp.1 r[i] (List.getElem_mem hi)
    have ih := put_setR hp.2 i hi he
    unfold putR at ih ⊢
    have h1 : delR (c :: r) d.od = c :: delR r d.od := by
      unfold delR
      rw [List.filter_cons, if_pos (by simp; omega)]
    rw [h1, insR, if_neg (by omega), ih]
    rfl
theorem ins_atR {d : Row} : ∀ {ds : List Row} (j : Nat), j ≤ ds.length → (∀ i (h : i < ds.length), i < j → ds[i].od < d.od) → (∀ h : j < ds.length, d.od < ds[j].od) → insR d ds = ds.take j ++ [d] ++ ds.drop j
  | [], j, _, _, _ => by simp [insR]
  | c :: r, 0, _, _, h => by
    have : d.od < c.od := h (by simp)
    rw [insR, if_pos this]
    rfl
  | c :: r, j + 1, hj, h1, h => by
    have h0 := h1 0 (by simp) (by omega)
    simp only [List.getElem_cons_zero] at h0
    rw [insR, if_neg (by omega), ins_atR j (by simpa using hj) (fun i hi hij => h1 (i + 1) (by simpa using hi) (by omega)) (fun hh => h (by simpa using hh))]
    rfl
theorem idx_findR {ds : List Row} {k : Int} : (idxR ds k = -1 ∧ findR ds k = none) ∨ ∃ (i : Nat) (h : i < ds.length), idxR ds k = i ∧ findR ds k = some ds[i] ∧ ds[i].od = k := by
  unfold idxR findR
  cases hf : ds.findIdx? (fun d => decide (d.od = k)) with
  | none =>
    refine .inl ⟨rfl, ?_⟩
    rw [List.find?_eq_none]
    rw [List.findIdx?_eq_none_iff] at hf
    intro d hd
    simpa using hf d hd
  | some i =>
    rw [List.findIdx?_eq_some_iff_getElem] at hf
    obtain ⟨hi, he, hlt⟩ := hf
    refine .inr ⟨i, hi, rfl, ?_, by simpa using he⟩
    rw [List.find?_eq_some_iff_getElem]
    exact ⟨he, i, hi, rfl, fun j hj => by simpa using hlt j hj⟩
theorem idx_findR' (ds : List Row) (k : Int) : decide (0 ≤ idxR ds k) = (findR ds k).isSome := by
  rcases @idx_findR ds k with ⟨h1, h2⟩ | ⟨i, hi, h1, h2, -⟩
  · rw [h1, h2]; rfl
  · rw [h1, h2]; simp
theorem PcAt.sorted {w : World} {base b mb : Nat} {X : Nat → Prop} {ds : List Row} (h : PcAt w base b mb X ds) : SortedR ds := by
  obtain ⟨m, hm, hR⟩ := h.map
  have hs := hm.sorted keyedI
  have h1 : (m.map (·.1)).Pairwise (· < ·) := by
    rw [List.pairwise_map]
    exact hs.imp (fun {p q} h => by simpa [intK] using h)
  rw [hR.keys, List.pairwise_map] at h1
  exact h1
theorem PcAt.len {w : World} {base b mb : Nat} {X : Nat → Prop} {ds : List Row} (h : PcAt w base b mb X ds) : ds.length ≤ 1099511627776 := by
  obtain ⟨m, hm, hR⟩ := h.map
  have := h.short hm hR
  rwa [hR.length] at this
end Pc
end Go.Proofs.YtdbkkldgobkjcaaGreat
