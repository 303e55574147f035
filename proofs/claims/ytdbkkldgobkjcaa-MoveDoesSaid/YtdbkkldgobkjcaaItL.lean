/-
  items: the walk of Norm.
-/
import Derived.Test.YtdbkkldgobkjcaaItJ
import Derived.Test.YtdbkkldgobkjcaaItK
import Derived.Test.YtdbkkldgobkjcaaKeys
namespace Go.Proofs.Ytdbkkldgobkjcaa
open Go.RowKit Go.Maps Go.Sort
namespace It

theorem mem_keys {m : List (Bs × Value)} {k : Bs} : k ∈ m.map (·.1) ↔ (mGet m k).isSome = true := by
  unfold mGet
  rw [Option.isSome_map, List.find?_isSome, List.mem_map]
  simp
theorem keys_eq {m : List (Bs × Value)} {ss : List Bs} {L : List Item} (hT : Tells m L) (hs : m.Pairwise (fun p q => strK.lt p.1 q.1 = true)) (hp : ss.Perm (m.map (·.1))) :
    ss.mergeSort (fun x y => decide (x ≤ y)) = ksOf (L.map key) := by
  have hpm := (List.mergeSort_perm ss (fun x y => decide (x ≤ y))).trans hp
  refine uniq bs_irr bs_asy ?_ (ksOf_sorted _) fun x => ?_
  · have h1 : (ss.mergeSort (fun x y => decide (x ≤ y))).Pairwise (fun a b => decide (a ≤ b) = true) :=
      List.pairwise_mergeSort (fun a b c h1 h2 => by simp only [decide_eq_true_eq] at *; exact List.le_trans h1 h2) (fun a b => by simp only [Bool.or_eq_true, decide_eq_true_eq]; exact List.le_total a b) ss
    have h2 : (ss.mergeSort (fun x y => decide (x ≤ y))).Nodup := by
      rw [hpm.nodup_iff, List.nodup_iff_pairwise_ne, List.pairwise_map]
      refine hs.imp_of_mem fun {p q} _ _ h e => ?_
      rw [e] at h
      rw [show strK.lt q.1 q.1 = bytesBefore q.1 q.1 from rfl, WideAt.bytes_irrefl] at h
      cases h
    refine (h1.and (List.nodup_iff_pairwise_ne.1 h2)).imp_of_mem fun {a b} _ _ h => ?_
    simp only [decide_eq_true_eq] at h
    rcases bs_tri a b with h3 | h3 | h3
    · exact h3
    · exact absurd h3 h.2
    · exact absurd h3 (List.not_lt.2 h.1)
  · rw [hpm.mem_iff, mem_keys, hT x, ksOf_mem]
    by_cases hx : x ∈ L.map key <;> simp [hx]
theorem strKeys_mEs (m : List (Bs × Value)) : strKeys (DataW.map (mEs strK m)) = m.map (·.1) := by
  simp [strKeys, mEs, Function.comp_def, strOf, strK]
theorem normL_len (L : List Item) : (normL L).length ≤ (ksOf (L.map key)).length := List.length_filterMap_le _ _
def outTo (L : List Item) (k : Nat) : List Item := ((ksOf (L.map key)).take k).filterMap (pick L)
theorem outTo_len (L : List Item) (k : Nat) : (outTo L k).length ≤ k := Nat.le_trans (List.length_filterMap_le _ _) (by rw [List.length_take]; omega)
theorem outTo_succ (L : List Item) (k : Nat) (h : k < (ksOf (L.map key)).length) : outTo L (k + 1) = outTo L k ++ (if 0 < tot ((ksOf (L.map key)).getD k []) L then [(⟨((ksOf (L.map key)).getD k []).toArray⟩, tot ((ksOf (L.map key)).getD k []) L)] else []) := by
  have hg : (ksOf (L.map key)).getD k [] = (ksOf (L.map key))[k] := by simp [h]
  unfold outTo
  rw [List.take_add_one, List.getElem?_eq_getElem h, List.filterMap_append, hg]
  congr 1
  simp only [Option.toList_some, List.filterMap_cons, List.filterMap_nil, pick]
  split <;> simp_all
theorem outTo_all (L : List Item) : outTo L (ksOf (L.map key)).length = normL L := by unfold outTo normL; rw [List.take_length]

set_option maxRecDepth 100000 in
set_option maxHeartbeats 4000000 in
theorem norm_calls (L : List Item) (v : Value) (w : World) (hI : ItemsAt w 0 w.heap.size v L) (hF : Fits L) (hL : L.length ≤ 1000000) :
    Calls Try.prog 63 #[v] w fun e w' =>
      (∃ u, e = .returned (.tuple #[u, .int .i64 (normRes L).2]) ∧ w'.ownsRow w.heap.size 36 2 u (normRes L).1.length (itemCells (normRes L).1)) ∧ Below w.heap.size w w' := by
  have cS := Lib.hid (sums_calls L v w hI hF)
  have HR := Lib.hid (show normRes L = if sumsCode L = 0 then (if (normL L).length ≤ 16 then (normL L, 0) else ([], 3)) else ([], sumsCode L) from rfl)
  obtain ⟨A, c, rfl, hc1, hc2⟩ := hI.form
  generalize normRes L = NR at *
  go_enter Try.func63, Try.ntmps63
  go_wp2_with fail
  refine cS.out.mono ?_
  clear cS
  rintro e w1 ⟨⟨hz, b, m, rfl, hb, hgm, hml, hT⟩ | ⟨hz, rfl⟩, h1⟩
  · have HZ := Lib.hid hz
    clear hz
    have hkeys : (ksOf (L.map key)).length ≤ 1000000 := by
      have := (hgm.sorted keyedS)
      have e := keys_eq hT this (List.Perm.refl _)
      have := congrArg List.length e
      rw [List.length_mergeSort, List.length_map] at this
      omega
    have cK := Lib.hid ((callsIn_wide (n := 5)).1 (Ks.keys_calls (some b) w1))
    have cT := Lib.hid ((callsIn_wide (n := 5)).1 (Ks.sorted_calls b _ _ _ w1 hgm (by simp [Maps.size, mEs]; unfold maxLen; omega) (by simp [Maps.size, mEs]; omega)))
    have hlt := hgm.lt
    go_wp2_with fail
    refine cK.out.mono ?_
    rintro e w2 ⟨rfl, rfl⟩
    have hgm2 := hgm.kept (World.grownBy_alloc w1 (.cells #[.map (some b)] 115) none) (by simp)
    have hB2 := h1.alloc h1.size (.cells #[.map (some b)] 115)
    have hs2 : w1.heap.size + 1 = (w1.alloc (.cells #[.map (some b)] 115)).heap.size := by simp
    generalize w1.alloc (.cells #[.map (some b)] 115) = w2 at *
    go_wp2_with fail
    refine cT.out.mono ?_
    rintro e w3 ⟨u, ss, rfl, hp, hrow, -, h3⟩
    rw [strKeys_mEs] at hp
    have hke := keys_eq hT (hgm.sorted keyedS) hp
    have hsl : ss.length = (ksOf (L.map key)).length := by rw [← hke, List.length_mergeSort]
    rw [hke, hsl] at hrow
    have hsS := Sl.of_own hrow
    have hgm3 := hgm2.below h3 hgm2.lt
    have hB3 := hB2.trans (h3.mono hB2.size)
    have hs1 := h1.size
    have hs3 := h3.size
    obtain ⟨A', c', rfl, hA1, hA2, hA3⟩ := hsS.at_
    obtain ⟨i0, hi0, hz0⟩ := Option.map_eq_some_iff.1 item_info
    simp only [Prod.mk.injEq] at hz0
    obtain ⟨hz0, hz1, hz2⟩ := hz0
    have HT := Lib.hid hT
    have hoS := Lib.hid (outTo_succ L)
    have hoL := Lib.hid (outTo_len L)
    have hoA := Lib.hid (outTo_all L)
    have hmem := Lib.hid (show ∀ k, k < (ksOf (L.map key)).length → ((ksOf (L.map key)).getD k []).length ≤ maxLen from fun k hk => by
      have : (ksOf (L.map key)).getD k [] ∈ L.map key := by
        rw [← ksOf_mem]
        have : (ksOf (L.map key)).getD k [] = (ksOf (L.map key))[k] := by simp [hk]
        rw [this]
        exact List.getElem_mem hk
      obtain ⟨x, hx, he⟩ := List.mem_map.1 this
      rw [← he]
      have := (hF x hx).1
      simpa [key] using this)
    clear hT hke hp hsl hrow hsS
    generalize ksOf (L.map key) = KS at *
    have HA3 := Lib.hid hA3
    clear hA3
    go_wp2_with fail
    go_loopw [6, 8, 9, 22] (fun o _ _ r wr => ∃ k : Nat, k ≤ KS.length ∧ r = .int .i64 k ∧ wr.ownsRow w3.heap.size 36 2 o (outTo L k).length (itemCells (outTo L k)) ∧ Below w3.heap.size w3 wr) (fun _ _ _ r _ => KS.length - (intOf r).toNat)
    case atStart => exact ⟨0, by omega, rfl, World.ownsRow_nil _ _ _ _, Below.refl _ _⟩
    case round =>
      obtain ⟨k, hk, rfl, hown, hBr⟩ := hrel
      have hgmr := hgm3.below hBr hgm3.lt
      by_cases hlt2 : k < KS.length
      · obtain ⟨bs, os, rfl, hbs1, hbs2, hcs⟩ := HA3.out (by omega)
        have hck : wr.cell? ⟨bs, os + k, none⟩ = some (.string ⟨(KS.getD k []).toArray⟩) := by
          have h1 := hcs k (by omega)
          rw [hBr.cell (p := ⟨bs, os + k, none⟩) hbs2, h1]
          simp [hlt2]
        clear hcs
        have hkey := Lib.hid (show keyOf Try.prog 9 (.string ⟨(KS.getD k []).toArray⟩) = some (strK.lit (KS.getD k [])) from key_str (s := ⟨(KS.getD k []).toArray⟩) (hmem.out k hlt2))
        have hget := Lib.hid (HT.out.have_ (KS.getD k []))
        have hS := Lib.hid (hoS.out k hlt2)
        have hOL := Lib.hid (hoL.out k)
        generalize tot (KS.getD k []) L = t at *
        generalize KS.getD k [] = y at *
        generalize outTo L k = S at *
        by_cases ht : 0 < t
        · have hS2 := Lib.hid (show outTo L (k + 1) = S ++ [(⟨y.toArray⟩, t)] by rw [hS.out, if_pos ht])
          have hd : decide (0 < t) = true := by simpa using ht
          clear hS
          go_wp2_with (first
            | (at_lookup; refine wpList_look_g rfl (.tmp 26) (.tmp 27) _ rfl 9 _ keyedS Try.underlying115 rfl hgmr (zeroI _) _ _ rfl hkey.out _ hget.out ?_)
            | (at_builtin
               refine wpList_append_sl _ rfl (.tmp 31) (.tmp 35) _ rfl w3.heap.size 36 i0 _ 2 24 Try.underlying30 hi0 hz0 hz1 hz2 rfl (by omega) u6 S.length (itemCells S) rfl (hown.alloc _) wr.heap.size (wr.heap.size + 1) _ 1 [.string ⟨y.toArray⟩, .int .i64 t] rfl (Sl.new wr #[.string ⟨y.toArray⟩, .int .i64 t] 36 (n := 1) rfl (by unfold maxLen; omega)) (by simp [Value.oneCell']) (by have := hOL.out; unfold maxLen; omega) (by have := hOL.out; omega) (by have := hBr.size; simp; omega) ?_
               intro v1 w5 hv1 hg1 hat1))
          have hsz1 := hg1.size
          simp at hsz1
          have hB4 : Below w3.heap.size w3 w5 := (hBr.alloc hBr.size _).grown hg1 (by have := hBr.size; simp; omega) (fun g hg => (hown.lt g hg).1)
          go_roundw
          case rel =>
            refine ⟨k + 1, by omega, by go_num, ?_, hB4⟩
            rw [hS2.out, List.length_append, itemCells_append]
            exact hv1
          case measure => simp [intOf]; omega
        · have hS2 := Lib.hid (show outTo L (k + 1) = S by rw [hS.out, if_neg ht, List.append_nil])
          have hd : decide (0 < t) = false := by simpa using ht
          clear hS
          go_wp2_with (first
            | (at_lookup; refine wpList_look_g rfl (.tmp 26) (.tmp 27) _ rfl 9 _ keyedS Try.underlying115 rfl hgmr (zeroI _) _ _ rfl hkey.out _ hget.out ?_))
          go_roundw
          case rel => exact ⟨k + 1, by omega, by go_num, by rw [hS2.out]; exact hown, hBr⟩
          case measure => simp [intOf]; omega
      · obtain rfl : k = KS.length := by omega
        have hO := Lib.hid hoA.out
        rw [hoA.out] at hown
        have hN := Lib.hid (show (normL L).length ≤ 1000000 by have := hoL.out KS.length; rw [hoA.out] at this; omega)
        generalize normL L = O at *
        obtain ⟨A5, c5, rfl, -⟩ := (ItemsAt.of_own hown).form
        have hB5 := hB3.trans (hBr.mono hB3.size)
        have hown2 := ownsRow_wide hown hB3.size
        by_cases h16 : O.length ≤ 16
        · obtain rfl : NR = (O, 0) := by rw [HR.out, if_pos HZ.out, if_pos h16]
          have hd : decide ((O.length : Int) > 16) = false := by simp; omega
          go_wp2_with fail
          go_ret2
          exact ⟨⟨_, rfl, hown2⟩, hB5⟩
        · obtain rfl : NR = ([], 3) := by rw [HR.out, if_pos HZ.out, if_neg h16]
          have hd : decide ((O.length : Int) > 16) = true := by simp; omega
          go_wp2_with fail
          go_ret2
          exact ⟨⟨_, rfl, World.ownsRow_nil _ _ _ _⟩, hB5⟩
  · generalize sumsCode L = C at *
    obtain rfl : NR = ([], C) := by rw [HR.out, if_neg hz]
    have hzd : (C == 0) = false := by simpa using hz
    clear HR
    go_wp2_with fail
    go_ret2
    exact ⟨⟨_, rfl, World.ownsRow_nil _ _ _ _⟩, h1⟩
end It
end Go.Proofs.Ytdbkkldgobkjcaa
