/-
  sagas played: the law SagaPlays.
-/
import Derived.Test.YthfpfomifebpbaaPy2
import Derived.Test.YthfpfomifebpbaaPy1
import Derived.Laws.MakeOwn
import Derived.Deep.DeepCutAuto

set_option linter.unusedVariables false
set_option linter.unusedSimpArgs false
namespace Go.Proofs.Ythfpfomifebpbaa
open Go.RowKit Go.Maps
namespace Sa
open It
set_option linter.unusedSimpArgs false

set_option maxRecDepth 100000 in
set_option maxHeartbeats 8000000 in
theorem plays_good (L : List Int) (vh : Value) (W : Int) (waits : Bool) (K : List Int) (vk : Value) (w : World) (hA : IntsAt w 0 w.heap.size vh L) (hn1 : 1 ≤ L.length) (hn8 : L.length ≤ 8) (hW1 : 1 ≤ W) (hW2 : W ≤ 1073741824) (hK : IntsAt w 0 w.heap.size vk K) :
    Calls Try.prog 5 #[vh, .int .i64 W, .bool waits, vk] w fun e w' => e = .returned (.bool true) ∧ Below w.heap.size w w' := by
  have hmx : Try.prog.follows .mixedOrders = true := by kernel_rfl
  obtain ⟨j0, hj0, hy0⟩ := Option.map_eq_some_iff.1 int_info
  simp only [Prod.mk.injEq] at hy0
  obtain ⟨hy0, hy1, hy2⟩ := hy0
  have HJ0 := Lib.hid (And.intro hj0 (And.intro hy0 (And.intro hy1 hy2)))
  obtain ⟨Ah, ch, rfl, -⟩ := hA.form
  obtain ⟨n, hn⟩ : ∃ n, L.length = n := ⟨_, rfl⟩
  rw [hn] at hA
  have hmk : ∀ V : World, (Instr.makeSlice 25 (.int .i64 (n : Int)) (.int .i64 (n : Int))).run Try.prog V = .ok (.slice (some ⟨V.heap.size, 0, none⟩) n n) (V.alloc (.cells (madeCells (Value.int .i64 0).cells (n * 1)) 3)) := fun V => by
    have := run_make (P := Try.prog) V 25 3 j0 _ Try.underlying25 hj0 hy0 .i64 .i64 n n (by omega) (Int.le_refl _) (by rw [hy2]; omega) (by omega)
    rw [hy1] at this
    simpa using this
  have hM0 := madeInts n
  obtain ⟨MC, hMC⟩ : ∃ MC, madeCells (Value.int .i64 0).cells (n * 1) = MC := ⟨_, rfl⟩
  rw [hMC] at hM0
  simp only [hMC] at hmk
  have HM0 := Lib.hid hM0
  have HA := Lib.hid (fun V (hb : Below w.heap.size w V) => hA.mono hb hb.size)
  have HN := Lib.hid hn
  rw [hn] at hn1 hn8 ⊢
  have dn1 : decide ((n : Int) < 1) = false := by simp; omega
  have dn8 : decide ((n : Int) > 8) = false := by simp; omega
  have dW1 : decide (W < 1) = false := by simp; omega
  have dW2 : decide (W > 1073741824) = false := by simp; omega
  clear hj0 hy0 hy1 hy2 hM0 hMC hA hn
  go_enter Try.func5, Try.ntmps5
  go_upto_region 4 with (fail)
  clear dn1 dn8 dW1 dW2
  go_cut [10] (fun sp V => ∃ b hb kb gb, sp = .pointer (some ⟨b, 0, none⟩) ∧ PreAt w.heap.size V b hb kb gb n (.slice none 0 0) ∧ Below w.heap.size w V)
  case first =>
    go_region
    all_goals
      go_wp2
      go_meet
      case rel =>
        refine ⟨_, _, _, _, rfl, pre_make (w := w) HM0.out ?_ ?_ ?_ (four_d w _ _ _ _ _) (by omega) (by omega), four_below w _ _ _ _⟩
        · first | exact four_a w _ _ _ _ _ | exact four_b w _ _ _ _ _ | exact four_c w _ _ _ _ _
        · first | exact four_a w _ _ _ _ _ | exact four_b w _ _ _ _ _ | exact four_c w _ _ _ _ _
        · first | exact four_a w _ _ _ _ _ | exact four_b w _ _ _ _ _ | exact four_c w _ _ _ _ _
  case rest =>
    obtain ⟨b, hb, kb, gb, rfl, hpre, hB⟩ := hcut
    clear hmk
    go_wp2_with fail
    go_loopw [11, 12, 13] (fun t i _ wr => ∃ (k : Nat) (vf : Value), k ≤ n ∧ i = .int .i64 k ∧ t = .int .i64 (sumF (haveF L) k) ∧ PreAt w.heap.size wr b hb kb gb n vf ∧ wr.ownsRow w.heap.size 3 1 vf k (ints (haveL L k)) ∧ (∀ g, vf.ownBlock = some g → g ≠ b ∧ g ≠ hb ∧ g ≠ kb ∧ g ≠ gb) ∧ Below w.heap.size w wr) (fun _ i _ _ => n - (intOf i).toNat)
    case atStart => exact ⟨0, .slice none 0 0, by omega, rfl, rfl, hpre, World.ownsRow_nil _ _ _ _, (fun g e => by cases e), hB⟩
    case round =>
      clear hpre hB
      obtain ⟨k, vf, hk, rfl, rfl, hpre, hown, hnf, hB⟩ := hrel
      by_cases hlt : k < n
      · have hd : decide (k < n) = true := by simpa using hlt
        obtain ⟨bh, oh, rfl, -, -, hx⟩ := (HA.out wr hB).cellAt (j := k) (by rw [HN.out]; exact hlt)
        have hs1 := haveF_sum L k
        have HS := Lib.hid (show sumF (haveF L) (k + 1) = sumF (haveF L) k + haveF L k from rfl)
        have HL := Lib.hid (haveL_succ L k)
        have HF := Lib.hid (show haveF L k = adj (L.getD k 0) from rfl)
        have hkb : k < 8 := by omega
        generalize L.getD k 0 = x at *
        generalize haveF L k = fx at *
        generalize sumF (haveF L) k = sm at *
        obtain ⟨hs1, hs2⟩ := hs1
        have hs3 : sm ≤ 8589934592 := by omega
        clear hs2
        have HNF := Lib.hid hnf
        clear hnf
        have hlts := hpre.ob.lt
        obtain ⟨Af, cf, rfl, -⟩ := (Sl.of_own hown).at_
        by_cases h1 : x < 0
        · have d1 : decide (x < 0) = true := by simpa using h1
          have hfx : fx = 3 := by rw [HF.out]; unfold adj; rw [if_pos (.inl h1)]
          have hx2 : 0 ≤ fx ∧ fx ≤ 1073741824 := by rw [HF.out]; exact adj_bd x
          clear HF
          subst hfx
          have HX2 := Lib.hid hx2

          have c10 : wr.cell? ⟨b, 10, none⟩ = some (.slice Af k cf) := hpre.ob.cell rfl
          have hal := (Below.refl wr.heap.size wr).alloc (Nat.le_refl _) (.cells #[.int .i64 3] 3)
          have hl : Sl (wr.alloc (.cells #[.int .i64 3] 3)) wr.heap.size (wr.heap.size + 1) 1 (.slice (some ⟨wr.heap.size, 0, none⟩) 1 1) 1 [.int .i64 3] := Sl.new wr #[.int .i64 3] 3 (n := 1) rfl (by unfold maxLen; omega)
          have hown2 := row_later hown hal
          have hpre2 := hpre.same hal
          have hB2 := hB.trans (hal.mono hB.size)
          have hbsz := hB2.size
          obtain ⟨hj0, hy0, hy1, hy2⟩ := HJ0.out
          clear hown hpre hB hx2
          go_wp2_with (at_builtin
                       refine wpList_append_sl _ rfl (.tmp 72) (.tmp 74) _ rfl w.heap.size 3 j0 _ 1 8 Try.underlying25 hj0 hy0 hy1 hy2 rfl (by omega) (.slice Af k cf) k (ints (haveL L k)) rfl hown2 wr.heap.size (wr.heap.size + 1) _ 1 [.int .i64 3] rfl hl (by intro y hy; rw [List.mem_singleton.1 hy]; rfl) (by unfold maxLen; omega) (by omega) hbsz ?_
                       intro v3 w3 hv3 hg3 hat3
                       clear hj0 hy0 hy1 hy2 hl c10
                       have hpre3 := hpre2.vf (vf' := v3) hg3 HNF.out
                       have hob3 := hpre2.ob.kept hg3 (fun e => (HNF.out _ e.symm).1 rfl)
                       have hsz2 := hpre2.ob.lt
                       have hszh := hpre2.h.lt
                       have hszk := hpre2.k.lt
                       have hszg := hpre2.g.lt
                       have hnf3 : ∀ g, v3.ownBlock = some g → g ≠ b ∧ g ≠ hb ∧ g ≠ kb ∧ g ≠ gb := fun g hg => by
                         rcases hat3 with e | e
                         · exact HNF.out g (e.symm.trans hg)
                         · rw [e] at hg
                           have e2 : _ = g := Option.some.inj hg
                           omega
                       have hv4 := hv3.kept (grownBy_set w3 b 10 v3) (.inr fun e => (hnf3 _ e).1 rfl)
                       have hB3 := (hB2.grown hg3 hB2.size (fun g e => (hown2.lt g e).1)).trans ((below_set w3 b 10 v3).mono hpre2.lo.1)
                       have c103 : w3.cell? ⟨b, 10, none⟩ = some (.slice Af k cf) := hob3.cell rfl
                       have f103 := hob3.frozen 10
                       have HNF3 := Lib.hid hnf3
                       have HV4 := Lib.hid (show (w3.setCell ⟨b, 10, none⟩ v3).ownsRow w.heap.size 3 1 v3 (k + 1) (ints (haveL L k ++ [3])) by have h := hv4; unfold ints at h ⊢; rw [List.map_append]; exact h)
                       have HP3 := Lib.hid hpre3
                       have HB3 := Lib.hid hB3
                       obtain ⟨A5, c5, rfl, -⟩ := (Sl.of_own hv3).at_
                       clear hv3 hg3 hat3 hpre2 hown2 hob3 hpre3 hnf3 hv4 hB3 hB2 hsz2 hszh hszk hszg)
          go_roundw
          case rel => exact ⟨k + 1, _, by omega, by go_num, by rw [HS.out], HP3.out, by rw [HL.out]; exact HV4.out, HNF3.out, HB3.out⟩
          case measure => simp [intOf]; omega
        · have d1 : decide (x < 0) = false := by simpa using h1
          by_cases h2 : 1073741824 < x
          · have d2 : decide (x > 1073741824) = true := by simpa using h2
            have hfx : fx = 3 := by rw [HF.out]; unfold adj; rw [if_pos (.inr h2)]
            have hx2 : 0 ≤ fx ∧ fx ≤ 1073741824 := by rw [HF.out]; exact adj_bd x
            clear HF
            subst hfx
            have HX2 := Lib.hid hx2

            have c10 : wr.cell? ⟨b, 10, none⟩ = some (.slice Af k cf) := hpre.ob.cell rfl
            have hal := (Below.refl wr.heap.size wr).alloc (Nat.le_refl _) (.cells #[.int .i64 3] 3)
            have hl : Sl (wr.alloc (.cells #[.int .i64 3] 3)) wr.heap.size (wr.heap.size + 1) 1 (.slice (some ⟨wr.heap.size, 0, none⟩) 1 1) 1 [.int .i64 3] := Sl.new wr #[.int .i64 3] 3 (n := 1) rfl (by unfold maxLen; omega)
            have hown2 := row_later hown hal
            have hpre2 := hpre.same hal
            have hB2 := hB.trans (hal.mono hB.size)
            have hbsz := hB2.size
            obtain ⟨hj0, hy0, hy1, hy2⟩ := HJ0.out
            clear hown hpre hB hx2
            go_wp2_with (at_builtin
                         refine wpList_append_sl _ rfl (.tmp 72) (.tmp 74) _ rfl w.heap.size 3 j0 _ 1 8 Try.underlying25 hj0 hy0 hy1 hy2 rfl (by omega) (.slice Af k cf) k (ints (haveL L k)) rfl hown2 wr.heap.size (wr.heap.size + 1) _ 1 [.int .i64 3] rfl hl (by intro y hy; rw [List.mem_singleton.1 hy]; rfl) (by unfold maxLen; omega) (by omega) hbsz ?_
                         intro v3 w3 hv3 hg3 hat3
                         clear hj0 hy0 hy1 hy2 hl c10
                         have hpre3 := hpre2.vf (vf' := v3) hg3 HNF.out
                         have hob3 := hpre2.ob.kept hg3 (fun e => (HNF.out _ e.symm).1 rfl)
                         have hsz2 := hpre2.ob.lt
                         have hszh := hpre2.h.lt
                         have hszk := hpre2.k.lt
                         have hszg := hpre2.g.lt
                         have hnf3 : ∀ g, v3.ownBlock = some g → g ≠ b ∧ g ≠ hb ∧ g ≠ kb ∧ g ≠ gb := fun g hg => by
                           rcases hat3 with e | e
                           · exact HNF.out g (e.symm.trans hg)
                           · rw [e] at hg
                             have e2 : _ = g := Option.some.inj hg
                             omega
                         have hv4 := hv3.kept (grownBy_set w3 b 10 v3) (.inr fun e => (hnf3 _ e).1 rfl)
                         have hB3 := (hB2.grown hg3 hB2.size (fun g e => (hown2.lt g e).1)).trans ((below_set w3 b 10 v3).mono hpre2.lo.1)
                         have c103 : w3.cell? ⟨b, 10, none⟩ = some (.slice Af k cf) := hob3.cell rfl
                         have f103 := hob3.frozen 10
                         have HNF3 := Lib.hid hnf3
                         have HV4 := Lib.hid (show (w3.setCell ⟨b, 10, none⟩ v3).ownsRow w.heap.size 3 1 v3 (k + 1) (ints (haveL L k ++ [3])) by have h := hv4; unfold ints at h ⊢; rw [List.map_append]; exact h)
                         have HP3 := Lib.hid hpre3
                         have HB3 := Lib.hid hB3
                         obtain ⟨A5, c5, rfl, -⟩ := (Sl.of_own hv3).at_
                         clear hv3 hg3 hat3 hpre2 hown2 hob3 hpre3 hnf3 hv4 hB3 hB2 hsz2 hszh hszk hszg)
            go_roundw
            case rel => exact ⟨k + 1, _, by omega, by go_num, by rw [HS.out], HP3.out, by rw [HL.out]; exact HV4.out, HNF3.out, HB3.out⟩
            case measure => simp [intOf]; omega
          · have d2 : decide (x > 1073741824) = false := by simpa using h2
            have hfx : fx = x := by rw [HF.out]; unfold adj; rw [if_neg (by omega)]
            have hx2 : 0 ≤ fx ∧ fx ≤ 1073741824 := by rw [HF.out]; exact adj_bd x
            clear HF
            subst hfx
            have HX2 := Lib.hid hx2
            obtain ⟨hx3, hx4⟩ := hx2
            have c10 : wr.cell? ⟨b, 10, none⟩ = some (.slice Af k cf) := hpre.ob.cell rfl
            have hal := (Below.refl wr.heap.size wr).alloc (Nat.le_refl _) (.cells #[.int .i64 fx] 3)
            have hl : Sl (wr.alloc (.cells #[.int .i64 fx] 3)) wr.heap.size (wr.heap.size + 1) 1 (.slice (some ⟨wr.heap.size, 0, none⟩) 1 1) 1 [.int .i64 fx] := Sl.new wr #[.int .i64 fx] 3 (n := 1) rfl (by unfold maxLen; omega)
            have hown2 := row_later hown hal
            have hpre2 := hpre.same hal
            have hB2 := hB.trans (hal.mono hB.size)
            have hbsz := hB2.size
            obtain ⟨hj0, hy0, hy1, hy2⟩ := HJ0.out
            clear hown hpre hB 
            go_wp2_with (at_builtin
                         refine wpList_append_sl _ rfl (.tmp 72) (.tmp 74) _ rfl w.heap.size 3 j0 _ 1 8 Try.underlying25 hj0 hy0 hy1 hy2 rfl (by omega) (.slice Af k cf) k (ints (haveL L k)) rfl hown2 wr.heap.size (wr.heap.size + 1) _ 1 [.int .i64 fx] rfl hl (by intro y hy; rw [List.mem_singleton.1 hy]; rfl) (by unfold maxLen; omega) (by omega) hbsz ?_
                         intro v3 w3 hv3 hg3 hat3
                         clear hj0 hy0 hy1 hy2 hl c10
                         have hpre3 := hpre2.vf (vf' := v3) hg3 HNF.out
                         have hob3 := hpre2.ob.kept hg3 (fun e => (HNF.out _ e.symm).1 rfl)
                         have hsz2 := hpre2.ob.lt
                         have hszh := hpre2.h.lt
                         have hszk := hpre2.k.lt
                         have hszg := hpre2.g.lt
                         have hnf3 : ∀ g, v3.ownBlock = some g → g ≠ b ∧ g ≠ hb ∧ g ≠ kb ∧ g ≠ gb := fun g hg => by
                           rcases hat3 with e | e
                           · exact HNF.out g (e.symm.trans hg)
                           · rw [e] at hg
                             have e2 : _ = g := Option.some.inj hg
                             omega
                         have hv4 := hv3.kept (grownBy_set w3 b 10 v3) (.inr fun e => (hnf3 _ e).1 rfl)
                         have hB3 := (hB2.grown hg3 hB2.size (fun g e => (hown2.lt g e).1)).trans ((below_set w3 b 10 v3).mono hpre2.lo.1)
                         have c103 : w3.cell? ⟨b, 10, none⟩ = some (.slice Af k cf) := hob3.cell rfl
                         have f103 := hob3.frozen 10
                         have HNF3 := Lib.hid hnf3
                         have HV4 := Lib.hid (show (w3.setCell ⟨b, 10, none⟩ v3).ownsRow w.heap.size 3 1 v3 (k + 1) (ints (haveL L k ++ [fx])) by have h := hv4; unfold ints at h ⊢; rw [List.map_append]; exact h)
                         have HP3 := Lib.hid hpre3
                         have HB3 := Lib.hid hB3
                         obtain ⟨A5, c5, rfl, -⟩ := (Sl.of_own hv3).at_
                         clear hv3 hg3 hat3 hpre2 hown2 hob3 hpre3 hnf3 hv4 hB3 hB2 hsz2 hszh hszk hszg)
            go_roundw
            case rel => exact ⟨k + 1, _, by omega, by go_num, by rw [HS.out], HP3.out, by rw [HL.out]; exact HV4.out, HNF3.out, HB3.out⟩
            case measure => simp [intOf]; omega
      · obtain rfl : k = n := by omega
        have hd : decide (k < k) = false := by simp
        clear hk hlt
        obtain ⟨fb, cf, rfl, hcf, hfb, hvec0⟩ := vec_own hown (by omega)
        have hvec := hvec0.eq (fun i hi => haveL_get hi)
        have hnf0 := hnf fb rfl
        have hsb := haveF_sum L k
        have hF0 := Lib.hid (fun (i : Nat) (_ : i < k) => show 0 ≤ haveF L i from (adj_bd _).1)
        generalize haveF L = F at *
        obtain ⟨TT, hTT⟩ : ∃ TT, sumF F k = TT := ⟨_, rfl⟩
        rw [hTT] at hsb ⊢
        have HTT := Lib.hid hTT
        obtain ⟨ht1, ht2⟩ := hsb
        have ht3 : TT ≤ 1099511627776 := by omega
        have hal := (Below.refl wr.heap.size wr).alloc (Nat.le_refl _) (.cells #[.string ⟨#[97]⟩, .int .i64 W] 41)
        have hit : ItemsAt (wr.alloc (.cells #[.string ⟨#[97]⟩, .int .i64 W] 41)) 0 (wr.alloc (.cells #[.string ⟨#[97]⟩, .int .i64 W] 41)).heap.size (.slice (some ⟨wr.heap.size, 0, none⟩) 1 1) (it1 W) := by
          rw [it1_pos (by omega)]
          exact (Sl.new wr #[.string ⟨#[97]⟩, .int .i64 W] 41 (size := 2) (n := 1) rfl (by unfold maxLen; omega)).wide (Nat.zero_le _) (by rw [World.size_alloc]; exact Nat.le_refl _)
        have hpre1 := hpre.same hal
        have hvec1 := hvec.same hal
        have hB1 := hB.trans (hal.mono hB.size)
        have hlt1 : b < (wr.alloc (.cells #[.string ⟨#[97]⟩, .int .i64 W] 41)).heap.size ∧ fb < (wr.alloc (.cells #[.string ⟨#[97]⟩, .int .i64 W] 41)).heap.size ∧ hb < (wr.alloc (.cells #[.string ⟨#[97]⟩, .int .i64 W] 41)).heap.size ∧ kb < (wr.alloc (.cells #[.string ⟨#[97]⟩, .int .i64 W] 41)).heap.size ∧ gb < (wr.alloc (.cells #[.string ⟨#[97]⟩, .int .i64 W] 41)).heap.size := ⟨hpre1.ob.lt, hvec1.lt, hpre1.h.lt, hpre1.k.lt, hpre1.g.lt⟩
        have cB := begin_fresh 65 (0) k (it1 W) waits (.slice (some ⟨wr.heap.size, 0, none⟩) 1 1) _ hit (it1_M (by omega)).fits (by rw [it1_pos (by omega)]; simp)
        rw [begin_eq hn1 hn8 (by omega) (by omega) hW1 hW2] at cB
        have HI0 := Lib.hid (inv_start (waits := waits) (first := 0) hn1 hn8 (by omega) (by omega) hW1 hW2 hF0.out)
        have HFA := Lib.hid (fair_start (n := k) (W := W) (T := TT) (first := 0) (waits := waits) (F := F))
        rw [hTT] at HI0
        obtain ⟨X, hX⟩ : ∃ X : Step, (⟨3, 0, it1 W, 0⟩ : Step) = X := ⟨_, rfl⟩
        obtain ⟨S, hS⟩ : ∃ S : Saga, saga1 65 (0) k (it1 W) waits = S := ⟨_, rfl⟩
        rw [hX, hS] at cB HI0 HFA
        have cB := Lib.hid cB
        have cL := Lib.hid (fun V => lives_calls V)
        clear hpre hvec hvec0 hown hB hal hnf hit hTT hd hX hS
        go_wp2_with fail
        generalize wr.alloc (.cells #[.string ⟨#[97]⟩, .int .i64 W] 41) = U0 at *
        refine cB.out.mono ?_
        rintro e U1 ⟨⟨zw, zg, zp, zl, rfl, g, xv, x, rfl, hx1, hlo, hob4, hP, hxi⟩, hb1⟩
        obtain rfl : X = x := by cases hx1; rfl
        obtain ⟨E1, d1, rfl, -⟩ := hP.want.form
        obtain ⟨E2, d2, rfl, -⟩ := hP.got.form
        obtain ⟨E3, d3, rfl, -⟩ := hP.pend.form
        obtain ⟨xc, hxc⟩ : ∃ xc, sagaC S (.slice E1 S.want.length d1) (.slice E2 S.got.length d2) (.slice E3 S.pending.length d3) = xc := ⟨_, rfl⟩
        dsimp only
        rw [hxc]
        have xc1 : xc.size = 10 := by rw [← hxc]; rfl
        have xc2 : xc.all (·.oneCell') = true := by rw [← hxc]; simp [sagaC, Value.oneCell']
        have HXC := Lib.hid hxc
        have hoN := Ob.new U1 27 #[.int .i64 0, .int .i64 0, .int .i64 0, .slice none 0 0, .bool false, .int .i64 0, .int .i64 0, .slice none 0 0, .slice none 0 0, .bool false]
        have hal3 := (Below.refl U1.heap.size U1).alloc (Nat.le_refl _) (.cells #[.int .i64 0, .int .i64 0, .int .i64 0, .slice none 0 0, .bool false, .int .i64 0, .int .i64 0, .slice none 0 0, .slice none 0 0, .bool false] 27)
        have HPRE := Lib.hid (hpre1.same hb1)
        have HVEC := Lib.hid (hvec1.same hb1)
        have HP4 := Lib.hid hP
        have HOB4 := Lib.hid hob4
        have HXI := Lib.hid hxi
        have HB2 := Lib.hid (hB1.trans (hb1.mono hB1.size))
        have hu1 := hb1.size
        clear hx1 hP hob4 hxi hxc hb1 hpre1 hvec1 hB1 cB
        go_wp2_with (refine wpList_store_ob (cells := xc) rfl 27 (.tmp 14) (.tmp 88) rfl rfl rfl hoN xc1 (by rw [xc1]; kernel_rfl) xc2 ?_
                     intro U2 oS hg2
                     have hb2 : Below U1.heap.size U1 U2 := hal3.grown hg2 (by simp) (fun g e => by have e2 : U1.heap.size = g := Option.some.inj e; omega)
                     clear hoN hal3 hg2)
        refine (cL.out U2).mono ?_
        rintro e U3 ⟨rfl, hb3⟩
        have oS := oS.same hb3
        have hb13 := hb2.trans (hb3.mono hb2.size)
        have hpre3 := HPRE.out.same hb13
        have hvec3 := HVEC.out.same hb13
        have hP3 := HP4.out.kept (Kept.of_below (Fr := fun i => i < U1.heap.size) hb13 fun i hi => hi) fun i ha hb => by have := HOB4.out.lt; omega
        have hob3 := HOB4.out.same hb13
        have hxi3 := (Kept.of_below (Fr := fun i => i < U1.heap.size) hb13 fun i hi => hi).sl HXI.out fun i ha hb => by have := HOB4.out.lt; omega
        have hB3 := HB2.out.trans (hb13.mono HB2.out.size)
        have hth := pre_there hpre3.ob
        have hpp := pre_put hpre3.ob S (.slice E1 S.want.length d1) (.slice E2 S.got.length d2) (.slice E3 S.pending.length d3)
        obtain ⟨hplay, hgr⟩ := PlayAt.start hpre3 hvec3 ⟨hnf0.1, hnf0.2.1, hnf0.2.2.1, hnf0.2.2.2⟩ hlt1 hP3 hlo hob3 hxi3
        rw [HXC.out] at hpp hplay hgr
        have HWB := Lib.hid hpre3.lo
        have hBp := hB3.grown hgr hB3.size (fun g e => by have e2 : b = g := Option.some.inj e; have := HWB.out.1; omega)
        have HPLAY := Lib.hid hplay
        have HBP := Lib.hid hBp
        have c14 : (U3.setCells b 0 xc.toList).cell? ⟨b, 14, none⟩ = some (.slice none 0 0) := hpp.cell rfl
        have f14 := hpp.frozen 14
        have hgw : w.heap.size ≤ g := by have := HB2.out.size; omega
        obtain ⟨l1, l2, l3, l4, l5⟩ := hlt1
        clear hplay hgr hBp hpp hxi3 hob3 hP3 hvec3 hpre3 hb2 hb3 hb13 HPRE HVEC HP4 HOB4 HXI hnf0
        go_wp2_with (first | (refine wpList_load_obg (by rfl) _ _ rfl rfl _ oS Try.underlying27 rfl (by rw [xc1]; kernel_rfl) ?_) | (refine wpList_store_mid rfl 27 (.tmp 102) (.tmp 99) rfl b 0 xc rfl rfl (by rw [xc1]; exact hth) (by rw [xc1]; kernel_rfl) xc2 ?_))
        clear c14 f14 hth oS
        generalize (U3.setCells b 0 xc.toList).setCell ⟨b, 14, none⟩ (.slice (some ⟨g, 0, none⟩) 1 1) = U4 at *
        obtain ⟨B0, hB0⟩ : ∃ B0 : Bl, B0 = ⟨b, fb, hb, kb, gb, cf⟩ := ⟨_, rfl⟩
        have eb0 : b = B0.b := by rw [hB0]
        have ecf : cf = B0.cf := by rw [hB0]
        rw [← hB0] at HPLAY
        have hcf0 : k ≤ B0.cf := by omega
        have hbl : ∀ i, B0.is i → w.heap.size ≤ i := fun i hi => by
          rw [hB0] at hi
          rcases hi with e | e | e | e | e
          · have e : i = b := e
            rw [e]; exact HWB.out.1
          · have e : i = fb := e
            rw [e]; exact hfb
          · have e : i = hb := e
            rw [e]; exact HWB.out.2.1
          · have e : i = kb := e
            rw [e]; exact HWB.out.2.2.1
          · have e : i = gb := e
            rw [e]; exact HWB.out.2.2.2
        have HBL := Lib.hid hbl
        have HB0 := Lib.hid hB0
        clear hbl hB0 ecf
        rw [eb0]
        clear eb0
        have hmu0 := mu_le HI0.out
        go_wp2_with fail
        have HK := Lib.hid (fun V (hb : Below w.heap.size w V) => hK.mono hb hb.size)
        obtain ⟨Ak, ck, rfl, -⟩ := hK.form
        obtain ⟨nk, hnk⟩ : ∃ nk, K.length = nk := ⟨_, rfl⟩
        have HNK := Lib.hid hnk
        rw [hnk] at HK
        rw [hnk]
        clear hK hnk
        go_loopw [17, 18, 19, 20, 21, 22, 23] (fun i _ _ _ _ _ _ wr => ∃ (j : Nat) (p : Play) (Q : Nat → Int) (vw vg vp vy : Value), j ≤ nk ∧ j ≤ 60 ∧ i = .int .i64 j ∧ PlayAt wr B0 k p vw vg vp vy ∧ Inv k W TT p Q ∧ (∀ i, vy.ownBlock = some i → w.heap.size ≤ i) ∧ Below w.heap.size w wr) (fun i _ _ _ _ _ _ _ => nk - (intOf i).toNat)
        case atStart => exact ⟨0, _, _, _, _, _, _, by omega, by omega, rfl, HPLAY.out, HI0.out, fun i hi => by have e2 : g = i := Option.some.inj hi; omega, HBP.out⟩
        case round =>
          clear hmu0
          obtain ⟨j, p, Q, vw, vg, vp, vy, hj, hj60, rfl, hp, hI, hvy, hB⟩ := hrel
          have HVY := Lib.hid hvy
          have HB := Lib.hid hB
          clear hvy
          by_cases hgo : j < nk ∧ j < 60
          · obtain ⟨hj1, hj2⟩ := hgo
            have d1 : decide (j < nk) = true := by simpa using hj1
            have d2 : decide ((j : Int) < 60) = true := by simp; omega
            obtain ⟨bk, ok, rfl, -, -, hx⟩ := (HK.out wr hB).cellAt (j := j) (by rw [HNK.out]; exact hj1)
            generalize K.getD j 0 = a at hx
            clear hB
            by_cases m0 : a.tmod 6 = 0
            · have e0 : (a.tmod 6 == 0) = true := by simp [m0]
              as_aux_lemma =>
                obtain ⟨p', hq, hI'⟩ := inv_tell hI (k := 3) (by omega)
                obtain ⟨Q', hQ'⟩ : ∃ Q' : Nat → Int, Q' = Q := ⟨_, rfl⟩
                rw [← hQ'] at hI'
                have HIP := Lib.hid hI'
                have cC := Lib.hid (tellp_calls B0 k p p' vw vg vp _ ⟨3, 0, []⟩ (.slice none 0 0) wr hp (fit_may hI.may) (ItemsAt.nil _ _ _) (fun x hx => by cases hx) (by have := way_len hI; omega) (fun u hu => next_len hu) hq)
                clear hp hI hI' hq hQ'
                go_wp2_with fail
                refine cC.out.mono ?_
                rintro e W9 ⟨rfl, ⟨zw, zg, zp, zy, hp9, hz9⟩, hpl9⟩
                have hbw : Below w.heap.size wr W9 := Kept.below hpl9 fun i hi => ⟨Nat.lt_of_lt_of_le hi HB.out.size, fun hx => by
                  rcases hx with hx | hx
                  · have := HBL.out i hx; omega
                  · have := HVY.out i hx; omega⟩
                have hB9 := HB.out.trans hbw
                have hz10 : ∀ i, zy.ownBlock = some i → w.heap.size ≤ i := fun i hi => (hz9 i hi).elim (fun hx => HVY.out i hx) (fun hx => by have := HB.out.size; omega)
                clear cC
                have bdn : ∀ i, i < k → 0 ≤ p'.held i ∧ p'.held i ≤ 1099511627776 ∧ 0 ≤ p'.picked i ∧ p'.picked i ≤ 1099511627776 ∧ 0 ≤ p'.gone i ∧ p'.gone i ≤ 1099511627776 := fun i hi => by have := HIP.out.each hi; have := HIP.out.qle hi; omega
                have cS := Lib.hid (sums_calls B0 k p' _ _ _ _ W9 hp9 hn8 hcf0 bdn)
                have hsum := HIP.out.sums
                have hsq := HIP.out.sumQ
                have htot := HIP.out.tot
                have g1 := sumF_nonneg fun i (hi : i < k) => (bdn i hi).1
                have g2 := sumF_nonneg fun i (hi : i < k) => (bdn i hi).2.2.1
                have g3 := sumF_nonneg fun i (hi : i < k) => (bdn i hi).2.2.2.2.1
                have hfb : ∀ c, c ≤ k → 0 ≤ sumF p'.free c ∧ sumF p'.free c ≤ 8796093022208 := fun c hc => by
                  have h5 := sumF_bd (f := p'.free) (k := c) fun i hi => ⟨HIP.out.f0 i (by omega), by have := sumF_le HIP.out.f0 (show i < k by omega); have := sumF_nonneg HIP.out.q0; omega⟩
                  omega
                have HFB := Lib.hid hfb
                have HP9 := Lib.hid hp9
                have HZ9 := Lib.hid hz10
                have HB9 := Lib.hid hB9
                obtain ⟨FF, hFF⟩ : ∃ FF, sumF p'.free k = FF := ⟨_, rfl⟩
                have HFF := Lib.hid hFF
                have HFS := Lib.hid (fun c => show sumF p'.free (c + 1) = sumF p'.free c + p'.free c from rfl)
                rw [hFF] at htot
                have hff := hfb k (Nat.le_refl _)
                rw [hFF] at hff
                obtain ⟨ff1, ff2⟩ := hff
                generalize sumF p'.held k = S1 at *
                generalize sumF p'.picked k = S2 at *
                generalize sumF p'.gone k = S3 at *
                have s1 : S1 + S2 + S3 ≤ W := by omega
                have s2 : FF + S1 + S2 + S3 = TT := by omega
                have t1 : decide (S1 + S2 + S3 > W) = false := by simp; omega
                have t1b : decide (W < S1 + S2 + S3) = false := by simp; omega
                have t2 : (FF + S1 + S2 + S3 != TT) = false := by rw [s2]; simp
                clear bdn hsum hsq htot hfb hFF hp9 hz9 hz10 hB9 hbw hpl9 s2
                go_wp2_with fail
                refine cS.out.mono ?_
                rintro e W10 ⟨rfl, hb10⟩
                have hp10 := HP9.out.same hb10
                have HB10 := Lib.hid (HB9.out.trans (hb10.mono HB9.out.size))
                have HP10 := Lib.hid hp10
                have c10 : W10.cell? ⟨B0.b, 10, none⟩ = some (.slice (some ⟨B0.f, 0, none⟩) k B0.cf) := hp10.cells.1
                have HV := Lib.hid hp10.free
                clear hp10 hb10 cS
                go_wp2_with fail
                go_loop [22, 23] (fun t c => ∃ c0 : Nat, c0 ≤ k ∧ c = .int .i64 c0 ∧ t = .int .i64 (sumF p'.free c0)) (fun _ c => k - (intOf c).toNat)
                case atStart => exact ⟨0, by omega, rfl, rfl⟩
                case round =>
                  obtain ⟨c0, hc0, rfl, rfl⟩ := hrel
                  by_cases hc : c0 < k
                  · have d5 : decide (c0 < k) = true := by simpa using hc
                    have q5 := HV.out.cell hc
                    obtain ⟨f1, f2⟩ := HFB.out c0 (by omega)
                    obtain ⟨f3, f4⟩ := HFB.out (c0 + 1) (by omega)
                    have HS5 := Lib.hid (HFS.out c0)
                    rw [HS5.out] at f3 f4
                    have HX5 := Lib.hid (HIP.out.f0 c0 hc)
                    generalize sumF p'.free c0 = s5 at *
                    generalize p'.free c0 = y5 at *
                    have hy5 := HX5.out
                    have hck : c0 < 8 := by omega
                    go_wp2
                    go_round
                    case rel => exact ⟨c0 + 1, by omega, by go_num, by rw [HS5.out]⟩
                    case measure => simp [intOf]; omega
                  · obtain rfl : c0 = k := by omega
                    have d5 : decide (c0 < c0) = false := by simp
                    rw [HFF.out]
                    clear hc hc0
                    go_wp2
                    go_roundw
                    case rel => exact ⟨j + 1, p', Q', _, _, _, _, by omega, by omega, by go_num, HP10.out, HIP.out, HZ9.out, HB10.out⟩
                    case measure => simp [intOf]; omega
            · have e0 : (a.tmod 6 == 0) = false := by simp [m0]
              by_cases m1 : a.tmod 6 = 1
              · have e1 : (a.tmod 6 == 1) = true := by simp [m1]
                as_aux_lemma =>
                  obtain ⟨p', hq, hI'⟩ := inv_tell hI (k := 5) (by omega)
                  obtain ⟨Q', hQ'⟩ : ∃ Q' : Nat → Int, Q' = Q := ⟨_, rfl⟩
                  rw [← hQ'] at hI'
                  have HIP := Lib.hid hI'
                  have cC := Lib.hid (tellp_calls B0 k p p' vw vg vp _ ⟨5, 0, []⟩ (.slice none 0 0) wr hp (fit_may hI.may) (ItemsAt.nil _ _ _) (fun x hx => by cases hx) (by have := way_len hI; omega) (fun u hu => next_len hu) hq)
                  clear hp hI hI' hq hQ'
                  go_wp2_with fail
                  refine cC.out.mono ?_
                  rintro e W9 ⟨rfl, ⟨zw, zg, zp, zy, hp9, hz9⟩, hpl9⟩
                  have hbw : Below w.heap.size wr W9 := Kept.below hpl9 fun i hi => ⟨Nat.lt_of_lt_of_le hi HB.out.size, fun hx => by
                    rcases hx with hx | hx
                    · have := HBL.out i hx; omega
                    · have := HVY.out i hx; omega⟩
                  have hB9 := HB.out.trans hbw
                  have hz10 : ∀ i, zy.ownBlock = some i → w.heap.size ≤ i := fun i hi => (hz9 i hi).elim (fun hx => HVY.out i hx) (fun hx => by have := HB.out.size; omega)
                  clear cC
                  have bdn : ∀ i, i < k → 0 ≤ p'.held i ∧ p'.held i ≤ 1099511627776 ∧ 0 ≤ p'.picked i ∧ p'.picked i ≤ 1099511627776 ∧ 0 ≤ p'.gone i ∧ p'.gone i ≤ 1099511627776 := fun i hi => by have := HIP.out.each hi; have := HIP.out.qle hi; omega
                  have cS := Lib.hid (sums_calls B0 k p' _ _ _ _ W9 hp9 hn8 hcf0 bdn)
                  have hsum := HIP.out.sums
                  have hsq := HIP.out.sumQ
                  have htot := HIP.out.tot
                  have g1 := sumF_nonneg fun i (hi : i < k) => (bdn i hi).1
                  have g2 := sumF_nonneg fun i (hi : i < k) => (bdn i hi).2.2.1
                  have g3 := sumF_nonneg fun i (hi : i < k) => (bdn i hi).2.2.2.2.1
                  have hfb : ∀ c, c ≤ k → 0 ≤ sumF p'.free c ∧ sumF p'.free c ≤ 8796093022208 := fun c hc => by
                    have h5 := sumF_bd (f := p'.free) (k := c) fun i hi => ⟨HIP.out.f0 i (by omega), by have := sumF_le HIP.out.f0 (show i < k by omega); have := sumF_nonneg HIP.out.q0; omega⟩
                    omega
                  have HFB := Lib.hid hfb
                  have HP9 := Lib.hid hp9
                  have HZ9 := Lib.hid hz10
                  have HB9 := Lib.hid hB9
                  obtain ⟨FF, hFF⟩ : ∃ FF, sumF p'.free k = FF := ⟨_, rfl⟩
                  have HFF := Lib.hid hFF
                  have HFS := Lib.hid (fun c => show sumF p'.free (c + 1) = sumF p'.free c + p'.free c from rfl)
                  rw [hFF] at htot
                  have hff := hfb k (Nat.le_refl _)
                  rw [hFF] at hff
                  obtain ⟨ff1, ff2⟩ := hff
                  generalize sumF p'.held k = S1 at *
                  generalize sumF p'.picked k = S2 at *
                  generalize sumF p'.gone k = S3 at *
                  have s1 : S1 + S2 + S3 ≤ W := by omega
                  have s2 : FF + S1 + S2 + S3 = TT := by omega
                  have t1 : decide (S1 + S2 + S3 > W) = false := by simp; omega
                  have t1b : decide (W < S1 + S2 + S3) = false := by simp; omega
                  have t2 : (FF + S1 + S2 + S3 != TT) = false := by rw [s2]; simp
                  clear bdn hsum hsq htot hfb hFF hp9 hz9 hz10 hB9 hbw hpl9 s2
                  go_wp2_with fail
                  refine cS.out.mono ?_
                  rintro e W10 ⟨rfl, hb10⟩
                  have hp10 := HP9.out.same hb10
                  have HB10 := Lib.hid (HB9.out.trans (hb10.mono HB9.out.size))
                  have HP10 := Lib.hid hp10
                  have c10 : W10.cell? ⟨B0.b, 10, none⟩ = some (.slice (some ⟨B0.f, 0, none⟩) k B0.cf) := hp10.cells.1
                  have HV := Lib.hid hp10.free
                  clear hp10 hb10 cS
                  go_wp2_with fail
                  go_loop [22, 23] (fun t c => ∃ c0 : Nat, c0 ≤ k ∧ c = .int .i64 c0 ∧ t = .int .i64 (sumF p'.free c0)) (fun _ c => k - (intOf c).toNat)
                  case atStart => exact ⟨0, by omega, rfl, rfl⟩
                  case round =>
                    obtain ⟨c0, hc0, rfl, rfl⟩ := hrel
                    by_cases hc : c0 < k
                    · have d5 : decide (c0 < k) = true := by simpa using hc
                      have q5 := HV.out.cell hc
                      obtain ⟨f1, f2⟩ := HFB.out c0 (by omega)
                      obtain ⟨f3, f4⟩ := HFB.out (c0 + 1) (by omega)
                      have HS5 := Lib.hid (HFS.out c0)
                      rw [HS5.out] at f3 f4
                      have HX5 := Lib.hid (HIP.out.f0 c0 hc)
                      generalize sumF p'.free c0 = s5 at *
                      generalize p'.free c0 = y5 at *
                      have hy5 := HX5.out
                      have hck : c0 < 8 := by omega
                      go_wp2
                      go_round
                      case rel => exact ⟨c0 + 1, by omega, by go_num, by rw [HS5.out]⟩
                      case measure => simp [intOf]; omega
                    · obtain rfl : c0 = k := by omega
                      have d5 : decide (c0 < c0) = false := by simp
                      rw [HFF.out]
                      clear hc hc0
                      go_wp2
                      go_roundw
                      case rel => exact ⟨j + 1, p', Q', _, _, _, _, by omega, by omega, by go_num, HP10.out, HIP.out, HZ9.out, HB10.out⟩
                      case measure => simp [intOf]; omega
              · have e1 : (a.tmod 6 == 1) = false := by simp [m1]
                by_cases m2 : a.tmod 6 = 2
                · have e2 : (a.tmod 6 == 2) = true := by simp [m2]
                  as_aux_lemma =>
                    obtain ⟨p', hq, hI'⟩ := inv_tell hI (k := 7) (by omega)
                    obtain ⟨Q', hQ'⟩ : ∃ Q' : Nat → Int, Q' = Q := ⟨_, rfl⟩
                    rw [← hQ'] at hI'
                    have HIP := Lib.hid hI'
                    have cC := Lib.hid (tellp_calls B0 k p p' vw vg vp _ ⟨7, 0, []⟩ (.slice none 0 0) wr hp (fit_may hI.may) (ItemsAt.nil _ _ _) (fun x hx => by cases hx) (by have := way_len hI; omega) (fun u hu => next_len hu) hq)
                    clear hp hI hI' hq hQ'
                    go_wp2_with fail
                    refine cC.out.mono ?_
                    rintro e W9 ⟨rfl, ⟨zw, zg, zp, zy, hp9, hz9⟩, hpl9⟩
                    have hbw : Below w.heap.size wr W9 := Kept.below hpl9 fun i hi => ⟨Nat.lt_of_lt_of_le hi HB.out.size, fun hx => by
                      rcases hx with hx | hx
                      · have := HBL.out i hx; omega
                      · have := HVY.out i hx; omega⟩
                    have hB9 := HB.out.trans hbw
                    have hz10 : ∀ i, zy.ownBlock = some i → w.heap.size ≤ i := fun i hi => (hz9 i hi).elim (fun hx => HVY.out i hx) (fun hx => by have := HB.out.size; omega)
                    clear cC
                    have bdn : ∀ i, i < k → 0 ≤ p'.held i ∧ p'.held i ≤ 1099511627776 ∧ 0 ≤ p'.picked i ∧ p'.picked i ≤ 1099511627776 ∧ 0 ≤ p'.gone i ∧ p'.gone i ≤ 1099511627776 := fun i hi => by have := HIP.out.each hi; have := HIP.out.qle hi; omega
                    have cS := Lib.hid (sums_calls B0 k p' _ _ _ _ W9 hp9 hn8 hcf0 bdn)
                    have hsum := HIP.out.sums
                    have hsq := HIP.out.sumQ
                    have htot := HIP.out.tot
                    have g1 := sumF_nonneg fun i (hi : i < k) => (bdn i hi).1
                    have g2 := sumF_nonneg fun i (hi : i < k) => (bdn i hi).2.2.1
                    have g3 := sumF_nonneg fun i (hi : i < k) => (bdn i hi).2.2.2.2.1
                    have hfb : ∀ c, c ≤ k → 0 ≤ sumF p'.free c ∧ sumF p'.free c ≤ 8796093022208 := fun c hc => by
                      have h5 := sumF_bd (f := p'.free) (k := c) fun i hi => ⟨HIP.out.f0 i (by omega), by have := sumF_le HIP.out.f0 (show i < k by omega); have := sumF_nonneg HIP.out.q0; omega⟩
                      omega
                    have HFB := Lib.hid hfb
                    have HP9 := Lib.hid hp9
                    have HZ9 := Lib.hid hz10
                    have HB9 := Lib.hid hB9
                    obtain ⟨FF, hFF⟩ : ∃ FF, sumF p'.free k = FF := ⟨_, rfl⟩
                    have HFF := Lib.hid hFF
                    have HFS := Lib.hid (fun c => show sumF p'.free (c + 1) = sumF p'.free c + p'.free c from rfl)
                    rw [hFF] at htot
                    have hff := hfb k (Nat.le_refl _)
                    rw [hFF] at hff
                    obtain ⟨ff1, ff2⟩ := hff
                    generalize sumF p'.held k = S1 at *
                    generalize sumF p'.picked k = S2 at *
                    generalize sumF p'.gone k = S3 at *
                    have s1 : S1 + S2 + S3 ≤ W := by omega
                    have s2 : FF + S1 + S2 + S3 = TT := by omega
                    have t1 : decide (S1 + S2 + S3 > W) = false := by simp; omega
                    have t1b : decide (W < S1 + S2 + S3) = false := by simp; omega
                    have t2 : (FF + S1 + S2 + S3 != TT) = false := by rw [s2]; simp
                    clear bdn hsum hsq htot hfb hFF hp9 hz9 hz10 hB9 hbw hpl9 s2
                    go_wp2_with fail
                    refine cS.out.mono ?_
                    rintro e W10 ⟨rfl, hb10⟩
                    have hp10 := HP9.out.same hb10
                    have HB10 := Lib.hid (HB9.out.trans (hb10.mono HB9.out.size))
                    have HP10 := Lib.hid hp10
                    have c10 : W10.cell? ⟨B0.b, 10, none⟩ = some (.slice (some ⟨B0.f, 0, none⟩) k B0.cf) := hp10.cells.1
                    have HV := Lib.hid hp10.free
                    clear hp10 hb10 cS
                    go_wp2_with fail
                    go_loop [22, 23] (fun t c => ∃ c0 : Nat, c0 ≤ k ∧ c = .int .i64 c0 ∧ t = .int .i64 (sumF p'.free c0)) (fun _ c => k - (intOf c).toNat)
                    case atStart => exact ⟨0, by omega, rfl, rfl⟩
                    case round =>
                      obtain ⟨c0, hc0, rfl, rfl⟩ := hrel
                      by_cases hc : c0 < k
                      · have d5 : decide (c0 < k) = true := by simpa using hc
                        have q5 := HV.out.cell hc
                        obtain ⟨f1, f2⟩ := HFB.out c0 (by omega)
                        obtain ⟨f3, f4⟩ := HFB.out (c0 + 1) (by omega)
                        have HS5 := Lib.hid (HFS.out c0)
                        rw [HS5.out] at f3 f4
                        have HX5 := Lib.hid (HIP.out.f0 c0 hc)
                        generalize sumF p'.free c0 = s5 at *
                        generalize p'.free c0 = y5 at *
                        have hy5 := HX5.out
                        have hck : c0 < 8 := by omega
                        go_wp2
                        go_round
                        case rel => exact ⟨c0 + 1, by omega, by go_num, by rw [HS5.out]⟩
                        case measure => simp [intOf]; omega
                      · obtain rfl : c0 = k := by omega
                        have d5 : decide (c0 < c0) = false := by simp
                        rw [HFF.out]
                        clear hc hc0
                        go_wp2
                        go_roundw
                        case rel => exact ⟨j + 1, p', Q', _, _, _, _, by omega, by omega, by go_num, HP10.out, HIP.out, HZ9.out, HB10.out⟩
                        case measure => simp [intOf]; omega
                · have e2 : (a.tmod 6 == 2) = false := by simp [m2]
                  by_cases m3 : a.tmod 6 = 3
                  · have e3 : (a.tmod 6 == 3) = true := by simp [m3]
                    as_aux_lemma =>
                      obtain ⟨p', hq, hI'⟩ := inv_tell hI (k := 4) (by omega)
                      obtain ⟨Q', hQ'⟩ : ∃ Q' : Nat → Int, Q' = Q := ⟨_, rfl⟩
                      rw [← hQ'] at hI'
                      have HIP := Lib.hid hI'
                      have cC := Lib.hid (tellp_calls B0 k p p' vw vg vp _ ⟨4, 0, []⟩ (.slice none 0 0) wr hp (fit_may hI.may) (ItemsAt.nil _ _ _) (fun x hx => by cases hx) (by have := way_len hI; omega) (fun u hu => next_len hu) hq)
                      clear hp hI hI' hq hQ'
                      go_wp2_with fail
                      refine cC.out.mono ?_
                      rintro e W9 ⟨rfl, ⟨zw, zg, zp, zy, hp9, hz9⟩, hpl9⟩
                      have hbw : Below w.heap.size wr W9 := Kept.below hpl9 fun i hi => ⟨Nat.lt_of_lt_of_le hi HB.out.size, fun hx => by
                        rcases hx with hx | hx
                        · have := HBL.out i hx; omega
                        · have := HVY.out i hx; omega⟩
                      have hB9 := HB.out.trans hbw
                      have hz10 : ∀ i, zy.ownBlock = some i → w.heap.size ≤ i := fun i hi => (hz9 i hi).elim (fun hx => HVY.out i hx) (fun hx => by have := HB.out.size; omega)
                      clear cC
                      have bdn : ∀ i, i < k → 0 ≤ p'.held i ∧ p'.held i ≤ 1099511627776 ∧ 0 ≤ p'.picked i ∧ p'.picked i ≤ 1099511627776 ∧ 0 ≤ p'.gone i ∧ p'.gone i ≤ 1099511627776 := fun i hi => by have := HIP.out.each hi; have := HIP.out.qle hi; omega
                      have cS := Lib.hid (sums_calls B0 k p' _ _ _ _ W9 hp9 hn8 hcf0 bdn)
                      have hsum := HIP.out.sums
                      have hsq := HIP.out.sumQ
                      have htot := HIP.out.tot
                      have g1 := sumF_nonneg fun i (hi : i < k) => (bdn i hi).1
                      have g2 := sumF_nonneg fun i (hi : i < k) => (bdn i hi).2.2.1
                      have g3 := sumF_nonneg fun i (hi : i < k) => (bdn i hi).2.2.2.2.1
                      have hfb : ∀ c, c ≤ k → 0 ≤ sumF p'.free c ∧ sumF p'.free c ≤ 8796093022208 := fun c hc => by
                        have h5 := sumF_bd (f := p'.free) (k := c) fun i hi => ⟨HIP.out.f0 i (by omega), by have := sumF_le HIP.out.f0 (show i < k by omega); have := sumF_nonneg HIP.out.q0; omega⟩
                        omega
                      have HFB := Lib.hid hfb
                      have HP9 := Lib.hid hp9
                      have HZ9 := Lib.hid hz10
                      have HB9 := Lib.hid hB9
                      obtain ⟨FF, hFF⟩ : ∃ FF, sumF p'.free k = FF := ⟨_, rfl⟩
                      have HFF := Lib.hid hFF
                      have HFS := Lib.hid (fun c => show sumF p'.free (c + 1) = sumF p'.free c + p'.free c from rfl)
                      rw [hFF] at htot
                      have hff := hfb k (Nat.le_refl _)
                      rw [hFF] at hff
                      obtain ⟨ff1, ff2⟩ := hff
                      generalize sumF p'.held k = S1 at *
                      generalize sumF p'.picked k = S2 at *
                      generalize sumF p'.gone k = S3 at *
                      have s1 : S1 + S2 + S3 ≤ W := by omega
                      have s2 : FF + S1 + S2 + S3 = TT := by omega
                      have t1 : decide (S1 + S2 + S3 > W) = false := by simp; omega
                      have t1b : decide (W < S1 + S2 + S3) = false := by simp; omega
                      have t2 : (FF + S1 + S2 + S3 != TT) = false := by rw [s2]; simp
                      clear bdn hsum hsq htot hfb hFF hp9 hz9 hz10 hB9 hbw hpl9 s2
                      go_wp2_with fail
                      refine cS.out.mono ?_
                      rintro e W10 ⟨rfl, hb10⟩
                      have hp10 := HP9.out.same hb10
                      have HB10 := Lib.hid (HB9.out.trans (hb10.mono HB9.out.size))
                      have HP10 := Lib.hid hp10
                      have c10 : W10.cell? ⟨B0.b, 10, none⟩ = some (.slice (some ⟨B0.f, 0, none⟩) k B0.cf) := hp10.cells.1
                      have HV := Lib.hid hp10.free
                      clear hp10 hb10 cS
                      go_wp2_with fail
                      go_loop [22, 23] (fun t c => ∃ c0 : Nat, c0 ≤ k ∧ c = .int .i64 c0 ∧ t = .int .i64 (sumF p'.free c0)) (fun _ c => k - (intOf c).toNat)
                      case atStart => exact ⟨0, by omega, rfl, rfl⟩
                      case round =>
                        obtain ⟨c0, hc0, rfl, rfl⟩ := hrel
                        by_cases hc : c0 < k
                        · have d5 : decide (c0 < k) = true := by simpa using hc
                          have q5 := HV.out.cell hc
                          obtain ⟨f1, f2⟩ := HFB.out c0 (by omega)
                          obtain ⟨f3, f4⟩ := HFB.out (c0 + 1) (by omega)
                          have HS5 := Lib.hid (HFS.out c0)
                          rw [HS5.out] at f3 f4
                          have HX5 := Lib.hid (HIP.out.f0 c0 hc)
                          generalize sumF p'.free c0 = s5 at *
                          generalize p'.free c0 = y5 at *
                          have hy5 := HX5.out
                          have hck : c0 < 8 := by omega
                          go_wp2
                          go_round
                          case rel => exact ⟨c0 + 1, by omega, by go_num, by rw [HS5.out]⟩
                          case measure => simp [intOf]; omega
                        · obtain rfl : c0 = k := by omega
                          have d5 : decide (c0 < c0) = false := by simp
                          rw [HFF.out]
                          clear hc hc0
                          go_wp2
                          go_roundw
                          case rel => exact ⟨j + 1, p', Q', _, _, _, _, by omega, by omega, by go_num, HP10.out, HIP.out, HZ9.out, HB10.out⟩
                          case measure => simp [intOf]; omega
                  · have e3 : (a.tmod 6 == 3) = false := by simp [m3]
                    as_aux_lemma =>
                      obtain ⟨p', Q', hq, hI'⟩ : ∃ p' Q', comeP k p = some p' ∧ Inv k W TT p' Q' := by
                        by_cases hne : p.way = []
                        · exact ⟨p, Q, by unfold comeP; rw [hne], hI⟩
                        · obtain ⟨p', Q', h1, h2, -⟩ := inv_come hI hne
                          exact ⟨p', Q', h1, h2⟩
                      have HIP := Lib.hid hI'
                      have cC := Lib.hid (comep_calls B0 k W TT p p' Q vw vg vp _ wr hp hI ht3 hcf0 hq)
                      clear hp hI hI' hq
                      go_wp2_with fail
                      refine cC.out.mono ?_
                      rintro e W9 ⟨rfl, ⟨zw, zg, zp, zy, hp9, hz9⟩, hpl9⟩
                      have hbw : Below w.heap.size wr W9 := Kept.below hpl9 fun i hi => ⟨Nat.lt_of_lt_of_le hi HB.out.size, fun hx => by
                        rcases hx with hx | hx
                        · have := HBL.out i hx; omega
                        · have := HVY.out i hx; omega⟩
                      have hB9 := HB.out.trans hbw
                      have hz10 : ∀ i, zy.ownBlock = some i → w.heap.size ≤ i := fun i hi => (hz9 i hi).elim (fun hx => HVY.out i hx) (fun hx => by have := HB.out.size; omega)
                      clear cC
                      have bdn : ∀ i, i < k → 0 ≤ p'.held i ∧ p'.held i ≤ 1099511627776 ∧ 0 ≤ p'.picked i ∧ p'.picked i ≤ 1099511627776 ∧ 0 ≤ p'.gone i ∧ p'.gone i ≤ 1099511627776 := fun i hi => by have := HIP.out.each hi; have := HIP.out.qle hi; omega
                      have cS := Lib.hid (sums_calls B0 k p' _ _ _ _ W9 hp9 hn8 hcf0 bdn)
                      have hsum := HIP.out.sums
                      have hsq := HIP.out.sumQ
                      have htot := HIP.out.tot
                      have g1 := sumF_nonneg fun i (hi : i < k) => (bdn i hi).1
                      have g2 := sumF_nonneg fun i (hi : i < k) => (bdn i hi).2.2.1
                      have g3 := sumF_nonneg fun i (hi : i < k) => (bdn i hi).2.2.2.2.1
                      have hfb : ∀ c, c ≤ k → 0 ≤ sumF p'.free c ∧ sumF p'.free c ≤ 8796093022208 := fun c hc => by
                        have h5 := sumF_bd (f := p'.free) (k := c) fun i hi => ⟨HIP.out.f0 i (by omega), by have := sumF_le HIP.out.f0 (show i < k by omega); have := sumF_nonneg HIP.out.q0; omega⟩
                        omega
                      have HFB := Lib.hid hfb
                      have HP9 := Lib.hid hp9
                      have HZ9 := Lib.hid hz10
                      have HB9 := Lib.hid hB9
                      obtain ⟨FF, hFF⟩ : ∃ FF, sumF p'.free k = FF := ⟨_, rfl⟩
                      have HFF := Lib.hid hFF
                      have HFS := Lib.hid (fun c => show sumF p'.free (c + 1) = sumF p'.free c + p'.free c from rfl)
                      rw [hFF] at htot
                      have hff := hfb k (Nat.le_refl _)
                      rw [hFF] at hff
                      obtain ⟨ff1, ff2⟩ := hff
                      generalize sumF p'.held k = S1 at *
                      generalize sumF p'.picked k = S2 at *
                      generalize sumF p'.gone k = S3 at *
                      have s1 : S1 + S2 + S3 ≤ W := by omega
                      have s2 : FF + S1 + S2 + S3 = TT := by omega
                      have t1 : decide (S1 + S2 + S3 > W) = false := by simp; omega
                      have t1b : decide (W < S1 + S2 + S3) = false := by simp; omega
                      have t2 : (FF + S1 + S2 + S3 != TT) = false := by rw [s2]; simp
                      clear bdn hsum hsq htot hfb hFF hp9 hz9 hz10 hB9 hbw hpl9 s2
                      go_wp2_with fail
                      refine cS.out.mono ?_
                      rintro e W10 ⟨rfl, hb10⟩
                      have hp10 := HP9.out.same hb10
                      have HB10 := Lib.hid (HB9.out.trans (hb10.mono HB9.out.size))
                      have HP10 := Lib.hid hp10
                      have c10 : W10.cell? ⟨B0.b, 10, none⟩ = some (.slice (some ⟨B0.f, 0, none⟩) k B0.cf) := hp10.cells.1
                      have HV := Lib.hid hp10.free
                      clear hp10 hb10 cS
                      go_wp2_with fail
                      go_loop [22, 23] (fun t c => ∃ c0 : Nat, c0 ≤ k ∧ c = .int .i64 c0 ∧ t = .int .i64 (sumF p'.free c0)) (fun _ c => k - (intOf c).toNat)
                      case atStart => exact ⟨0, by omega, rfl, rfl⟩
                      case round =>
                        obtain ⟨c0, hc0, rfl, rfl⟩ := hrel
                        by_cases hc : c0 < k
                        · have d5 : decide (c0 < k) = true := by simpa using hc
                          have q5 := HV.out.cell hc
                          obtain ⟨f1, f2⟩ := HFB.out c0 (by omega)
                          obtain ⟨f3, f4⟩ := HFB.out (c0 + 1) (by omega)
                          have HS5 := Lib.hid (HFS.out c0)
                          rw [HS5.out] at f3 f4
                          have HX5 := Lib.hid (HIP.out.f0 c0 hc)
                          generalize sumF p'.free c0 = s5 at *
                          generalize p'.free c0 = y5 at *
                          have hy5 := HX5.out
                          have hck : c0 < 8 := by omega
                          go_wp2
                          go_round
                          case rel => exact ⟨c0 + 1, by omega, by go_num, by rw [HS5.out]⟩
                          case measure => simp [intOf]; omega
                        · obtain rfl : c0 = k := by omega
                          have d5 : decide (c0 < c0) = false := by simp
                          rw [HFF.out]
                          clear hc hc0
                          go_wp2
                          go_roundw
                          case rel => exact ⟨j + 1, p', Q', _, _, _, _, by omega, by omega, by go_num, HP10.out, HIP.out, HZ9.out, HB10.out⟩
                          case measure => simp [intOf]; omega
          · have HPL := Lib.hid hp
            have HIN := Lib.hid hI
            have hD : (decide (j < nk) = true ∧ decide ((j : Int) < 60) = false) ∨ decide (j < nk) = false := by
              by_cases h1 : j < nk
              · exact .inl ⟨by simpa using h1, by simp; omega⟩
              · exact .inr (by simpa using h1)
            clear hp hI hB hgo
            rcases hD with ⟨d1, d2⟩ | d1
            all_goals
              as_aux_lemma =>
                go_wp2_with fail
                go_loopw [24] (fun i wr => ∃ (j : Nat) (p : Play) (Q : Nat → Int) (vw vg vp vy : Value), j ≤ 40 ∧ i = .int .i64 j ∧ PlayAt wr B0 k p vw vg vp vy ∧ Inv k W TT p Q ∧ (p.way = [] ∨ mu p.s + j ≤ 16) ∧ (∀ i, vy.ownBlock = some i → w.heap.size ≤ i) ∧ Below w.heap.size w wr) (fun i _ => 40 - (intOf i).toNat)
                case atStart => exact ⟨0, p, Q, _, _, _, _, by omega, rfl, HPL.out, HIN.out, .inr (by have := mu_le HIN.out; omega), HVY.out, HB.out⟩
                case round =>
                  clear HPL HIN HVY HB d1 hj hj60 HK HNK
                  obtain ⟨j, p, Q, vw, vg, vp, vy, hj, rfl, hp, hI, hmu, hvy, hB⟩ := hrel
                  obtain ⟨A9, c9, rfl, -⟩ := hp.wayv
                  have HVY := Lib.hid hvy
                  clear hvy
                  by_cases hgo : j < 40 ∧ p.way ≠ []
                  · obtain ⟨hj40, hne⟩ := hgo
                    obtain ⟨p', Q', hq, hI', hlt, -⟩ := inv_come hI hne
                    have hmu2 : mu p'.s + (j + 1) ≤ 16 := by
                      rcases hmu with h | h
                      · exact absurd h hne
                      · omega
                    have cC := Lib.hid (comep_calls B0 k W TT p p' Q vw vg vp _ wr hp hI ht3 hcf0 hq)
                    have c14 : wr.cell? ⟨B0.b, 14, none⟩ = some (.slice A9 p.way.length c9) := hp.ob.cell rfl
                    have hpos : 0 < p.way.length := List.length_pos_iff.2 hne
                    have d1 : decide ((j : Int) < 40) = true := by simp; omega
                    have d2 : decide (0 < p.way.length) = true := by simpa using hpos
                    have HIP := Lib.hid hI'
                    have HMU := Lib.hid hmu2
                    have HB := Lib.hid hB
                    clear hp hI hmu hI' hmu2 hq hlt hne hB hpos
                    go_wp2_with fail
                    refine cC.out.mono ?_
                    rintro e W9 ⟨rfl, ⟨zw, zg, zp, zy, hp9, hz9⟩, hpl9⟩
                    have hbw : Below w.heap.size wr W9 := Kept.below hpl9 fun i hi => ⟨Nat.lt_of_lt_of_le hi HB.out.size, fun hx => by
                      rcases hx with hx | hx
                      · have := HBL.out i hx; omega
                      · have := HVY.out i hx; omega⟩
                    have HBW := Lib.hid (HB.out.trans hbw)
                    have HP9 := Lib.hid hp9
                    have HZ9 := Lib.hid hz9
                    clear hp9 hz9 hpl9 hbw c14 d1 d2 cC
                    go_wp2
                    go_roundw
                    case rel => exact ⟨j + 1, p', Q', _, _, _, _, by omega, by go_num, HP9.out, HIP.out, .inr HMU.out, fun i hi => (HZ9.out i hi).elim (fun hx => HVY.out i hx) (fun hx => by have := HB.out.size; omega), HBW.out⟩
                    case measure => simp [intOf]; omega
                  · have hwe : p.way = [] := by
                      apply Decidable.byContradiction
                      intro hne
                      rcases hmu with h | h
                      · exact hne h
                      · exact hgo ⟨by omega, hne⟩
                    have bdn : ∀ i, i < k → 0 ≤ p.held i ∧ p.held i ≤ 1099511627776 ∧ 0 ≤ p.picked i ∧ p.picked i ≤ 1099511627776 ∧ 0 ≤ p.gone i ∧ p.gone i ≤ 1099511627776 := fun i hi => by have := hI.each hi; have := hI.qle hi; omega
                    have cS := Lib.hid (sums_calls B0 k p _ _ _ _ wr hp hn8 hcf0 bdn)
                    have hl := inv_last hI hwe
                    have g1 := sumF_nonneg fun i (hi : i < k) => (bdn i hi).1
                    have g2 := sumF_nonneg fun i (hi : i < k) => (bdn i hi).2.2.1
                    have g3 := sumF_nonneg fun i (hi : i < k) => (bdn i hi).2.2.2.2.1
                    have c14 : wr.cell? ⟨B0.b, 14, none⟩ = some (.slice A9 p.way.length c9) := hp.ob.cell rfl
                    rw [hwe] at c14
                    have HPX := Lib.hid hp
                    have HB := Lib.hid hB
                    obtain ⟨st, hst⟩ : ∃ st, p.s.state = st := ⟨_, rfl⟩
                    rw [hst] at hl
                    have HST := Lib.hid hst
                    generalize sumF p.held k = S1 at *
                    generalize sumF p.picked k = S2 at *
                    generalize sumF p.gone k = S3 at *
                    have HL := Lib.hid hl
                    clear hp hI hmu hwe hgo hl bdn hst hB
                    have hD : decide ((j : Int) < 40) = true ∨ decide ((j : Int) < 40) = false := by cases decide ((j : Int) < 40) <;> simp
                    rcases hD with d1 | d1
                    all_goals
                      go_wp2_with fail
                      refine cS.out.mono ?_
                      rintro e W10 ⟨rfl, hb10⟩
                      have c5 : W10.cell? ⟨B0.b, 5, none⟩ = some (.int .i64 st) := by rw [← HST.out]; exact (HPX.out.same hb10).ob.cell rfl
                      have HB11 := Lib.hid (HB.out.trans (hb10.mono HB.out.size))
                      clear hb10 cS c14 d1
                      rcases HL.out with ⟨rfl, rfl, h2⟩ | ⟨rfl, rfl, h2⟩ | ⟨rfl, rfl, h2⟩ | ⟨rfl | rfl | rfl, h2⟩
                      · obtain rfl : S2 = 0 := by omega
                        obtain rfl : S3 = 0 := by omega
                        go_wp2
                        go_ret
                        exact ⟨rfl, HB11.out⟩
                      · obtain rfl : S1 = 0 := by omega
                        obtain rfl : S3 = 0 := by omega
                        go_wp2
                        go_ret
                        exact ⟨rfl, HB11.out⟩
                      · obtain rfl : S1 = 0 := by omega
                        obtain rfl : S2 = 0 := by omega
                        go_wp2
                        go_ret
                        exact ⟨rfl, HB11.out⟩
                      all_goals
                        obtain rfl : S1 = 0 := by omega
                        obtain rfl : S2 = 0 := by omega
                        obtain rfl : S3 = 0 := by omega
                        go_wp2
                        go_ret
                        exact ⟨rfl, HB11.out⟩
end Sa
end Go.Proofs.Ythfpfomifebpbaa
