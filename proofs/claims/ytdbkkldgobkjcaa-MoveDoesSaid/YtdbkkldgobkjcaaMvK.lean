/-
  moves: the law Full.
-/
import Derived.Test.YtdbkkldgobkjcaaMvG
namespace Go.Proofs.Ytdbkkldgobkjcaa
open Go.RowKit Go.Maps
namespace Mv
open It

def la1 : List It.Item := [(sa, 1)]
theorem fits1 : Fits la1 := by
  intro x hx
  simp only [la1, List.mem_cons, List.not_mem_nil, or_false] at hx
  subst hx
  exact ⟨by decide, by decide, by decide⟩
def wayN (f : Int) (i : Nat) : Way := ⟨f + i, 0, 1, la1, false⟩
def ways (f : Int) (k : Nat) : List Way := (List.range k).map (wayN f)
theorem ways_succ (f : Int) (k : Nat) : ways f (k + 1) = ways f k ++ [wayN f k] := by simp [ways, List.range_succ]
theorem ways_length (f : Int) (k : Nat) : (ways f k).length = k := by simp [ways]
theorem find_past (f : Int) (k : Nat) (x : Int) (h : f + k ≤ x) : findW (ways f k) x = none := by
  unfold findW
  rw [List.find?_eq_none]
  intro d hd
  simp only [ways, List.mem_map, List.mem_range] at hd
  obtain ⟨i, hi, rfl⟩ := hd
  show ¬ decide (f + (i : Int) = x) = true
  rw [decide_eq_true_iff]
  omega
theorem del_past {ds : List Way} {x : Int} (h : findW ds x = none) : delW ds x = ds := by
  unfold findW at h
  rw [List.find?_eq_none] at h
  unfold delW
  rw [List.filter_eq_self]
  intro d hd
  have := h d hd
  simpa using this
theorem ins_last {d : Way} : ∀ {ds : List Way}, (∀ c ∈ ds, c.mv < d.mv) → insW d ds = ds ++ [d]
  | [], _ => rfl
  | c :: r, h => by
    unfold insW
    rw [if_neg (by have := h c (by simp); omega), ins_last (fun x hx => h x (by simp [hx]))]
    rfl
theorem ways_lt (f : Int) (k : Nat) : ∀ c ∈ ways f k, c.mv < f + k := by
  intro d hd
  simp only [ways, List.mem_map, List.mem_range] at hd
  obtain ⟨i, hi, rfl⟩ := hd
  simp [wayN]
  omega
theorem may1 : may la1 = true := by kernel_rfl
theorem go_full (f : Int) (k : Nat) (h1 : 1 ≤ f) (h2 : f ≤ 549755813888) (hk : k < 256) : goOf (ways f k) (f + k) 0 1 la1 = (ways f (k + 1), 0) := by
  unfold goOf
  rw [if_neg (by simp only [isR]; simp; omega), if_neg (by rw [may1]; simp [la1]), find_past f k _ (Int.le_refl _), if_neg (by simp), if_neg (by rw [ways_length]; omega)]
  unfold putW
  rw [del_past (find_past f k _ (Int.le_refl _)), ins_last (ways_lt f k), ways_succ]
  rfl
theorem go_over (f : Int) (h1 : 1 ≤ f) (h2 : f ≤ 549755813888) : goOf (ways f 256) (f + 256) 0 1 la1 = (ways f 256, 2) := by
  unfold goOf
  rw [if_neg (by simp only [isR]; simp; omega), if_neg (by rw [may1]; simp [la1]), find_past f 256 _ (by omega), if_neg (by simp), if_pos (by rw [ways_length]; omega)]
def tailN (f : Int) : List Way := (List.range 255).map fun i => wayN f (i + 1)
theorem ways_cons (f : Int) : ways f 256 = wayN f 0 :: tailN f := by
  unfold ways tailN
  rw [List.range_succ_eq_map, List.map_cons, List.map_map]
  rfl
theorem wayN0 (f : Int) : (wayN f 0).mv = f := by simp [wayN]
theorem find_first (f : Int) (d : Way) (r : List Way) (h : d.mv = f) : findW (d :: r) f = some d := by rw [findW_cons, if_pos h]
theorem forget_full (f : Int) : forgetOf (ways f 256) f = (ways f 256, 80) := by
  unfold forgetOf
  rw [ways_cons, find_first f _ _ (wayN0 f)]
  rfl
def firstC (f : Int) : Way := { wayN f 0 with came := true }
theorem tail_lt (f : Int) : ∀ c ∈ tailN f, f < c.mv ∧ c.mv < f + 256 := by
  intro d hd
  simp only [tailN, List.mem_map, List.mem_range] at hd
  obtain ⟨i, hi, rfl⟩ := hd
  simp only [wayN]
  omega
theorem tail_none (f x : Int) (h : x ≤ f ∨ f + 256 ≤ x) : findW (tailN f) x = none := by
  unfold findW
  rw [List.find?_eq_none]
  intro d hd
  have := tail_lt f d hd
  simp
  omega
theorem ins_first {d : Way} {ds : List Way} (h : ∀ c ∈ ds, d.mv < c.mv) : insW d ds = d :: ds := by
  cases ds with
  | nil => rfl
  | cons c r => unfold insW; rw [if_pos (h c (by simp))]
theorem come_full (f : Int) : comeOf (ways f 256) f = (firstC f :: tailN f, la1, 0) := by
  unfold comeOf
  rw [ways_cons, find_first f _ _ (wayN0 f)]
  have h1 : delW (wayN f 0 :: tailN f) f = tailN f := by
    unfold delW
    rw [List.filter_cons, if_neg (by simp [wayN])]
    exact del_past (tail_none f f (by omega))
  show (if (wayN f 0).came then _ else _) = _
  rw [if_neg (by simp [wayN])]
  unfold putW
  show (insW (firstC f) (delW (wayN f 0 :: tailN f) (firstC f).mv), _, _) = _
  rw [show (firstC f).mv = f from wayN0 f, h1, ins_first (fun c hc => by rw [show (firstC f).mv = f from wayN0 f]; exact (tail_lt f c hc).1)]
  rfl
theorem forget_first (f : Int) : forgetOf (firstC f :: tailN f) f = (tailN f, 0) := by
  unfold forgetOf
  rw [find_first f (firstC f) _ (wayN0 f)]
  show (if true then _ else _) = _
  rw [if_pos rfl]
  unfold delW
  rw [List.filter_cons, if_neg (by simp [firstC, wayN])]
  rw [show (tailN f).filter (fun d => !decide (d.mv = f)) = delW (tailN f) f from rfl, del_past (tail_none f f (by omega))]
theorem go_again (f : Int) (h1 : 1 ≤ f) (h2 : f ≤ 549755813888) : (goOf (tailN f) (f + 256) 0 1 la1).2 = 0 := by
  unfold goOf
  rw [if_neg (by simp only [isR]; simp; omega), if_neg (by rw [may1]; simp [la1]), tail_none f _ (by omega), if_neg (by simp), if_neg (by simp [tailN])]
theorem M_k (k : Nat) (h1 : 1 ≤ k) (h2 : k ≤ 256) : M [(sa, (k : Int))] := by
  have h0 := (may_iff la1).1 may1
  refine ⟨by simp, fun x hx => ?_, by simp⟩
  simp only [List.mem_cons, List.not_mem_nil, or_false] at hx
  subst hx
  have := h0.ok (sa, 1) (by simp [la1])
  exact ⟨this.1, by omega, by omega⟩
theorem M_nil : M [] := ⟨by simp, fun x hx => by simp at hx, by simp⟩
theorem plus_k (k : Nat) (h2 : k < 256) : plusOf (if k = 0 then [] else [(sa, (k : Int))]) la1 = ([(sa, ((k + 1 : Nat) : Int))], 0) := by
  refine plus_ok ?_ ((may_iff la1).1 may1) (M_k (k + 1) (by omega) (by omega)) fun g => ?_
  · split
    · exact M_nil
    · exact M_k k (by omega) (by omega)
  · split
    · rename_i h
      subst h
      simp only [la1, tot]
      rw [show key (sa, ((0 + 1 : Nat) : Int)) = key (sa, 1) from rfl]
      split <;> simp
    · simp only [la1, tot]
      rw [show key (sa, ((k : Nat) : Int)) = key (sa, 1) from rfl, show key (sa, ((k + 1 : Nat) : Int)) = key (sa, 1) from rfl]
      split <;> omega
theorem under_k (f : Int) : ∀ k, k ≤ 256 → underGo 0 1 (ways f k) = (if k = 0 then [] else [(sa, (k : Int))], true)
  | 0, _ => rfl
  | k + 1, h => by
    rw [ways_succ, underGo_snoc, under_k f k (by omega)]
    unfold underStep
    rw [if_pos rfl, if_neg (by simp [skipW, wayN])]
    show (if (plusOf (if k = 0 then [] else [(sa, (k : Int))]) la1).2 = 0 then _ else _) = _
    rw [show (plusOf (if k = 0 then [] else [(sa, (k : Int))]) (wayN f k).l) = plusOf (if k = 0 then [] else [(sa, (k : Int))]) la1 from rfl, plus_k k (by omega)]
    simp
theorem under_full (f : Int) : underOf 0 1 (ways f 256) = [(sa, 256)] := by
  unfold underOf
  rw [under_k f 256 (by omega)]
  rfl

set_option maxRecDepth 100000 in
set_option maxHeartbeats 4000000 in
theorem full_law (f : Int) (w : World) (hf1 : -9223372036854775808 ≤ f) (hf2 : f ≤ 9223372036854775807) :
    Calls Try.prog 5 #[.int .i64 f] w fun e w' => e = .returned (.bool true) ∧ Below w.heap.size w w' := by
  have cL := Lib.hid lives_calls
  by_cases hr : 1 ≤ f ∧ f ≤ 549755813888
  case neg =>
    have hcs : (decide (f < 1) = true) ∨ (decide (f < 1) = false ∧ decide (549755813888 < f) = true) := by
      by_cases h : f < 1
      · exact .inl (by simpa using h)
      · exact .inr ⟨by simpa using h, by simp; omega⟩
    clear hr hf1 hf2
    rcases hcs with h | ⟨h, h'⟩
    all_goals
      go_enter Try.func5, Try.ntmps5
      go_wp2_with fail
      refine (new_calls w).mono ?_
      rintro e w1 ⟨⟨b, mb, rfl, hlb, hlm, hM⟩, h1⟩
      clear hM
      go_wp2_with fail
      refine (cL.out w1).mono ?_
      rintro e w2 ⟨rfl, h2⟩
      go_wp2_with fail
      refine (cL.out w2).mono ?_
      rintro e w3 ⟨rfl, h3⟩
      go_wp2
      go_ret
      exact ⟨rfl, (h1.trans (h2.mono h1.size)).trans (h3.mono (Nat.le_trans h1.size h2.size))⟩
  case pos =>
    obtain ⟨hr1, hr2⟩ := hr
    have h : decide (f < 1) = false := by simp; omega
    have h' : decide (549755813888 < f) = false := by simp; omega
    have hR1 := Lib.hid hr1
    have hR2 := Lib.hid hr2
    clear hr1 hr2 hf1 hf2
    go_enter Try.func5, Try.ntmps5
    go_wp2_with fail
    refine (new_calls w).mono ?_
    rintro e w1 ⟨⟨b, mb, rfl, hlb, hlm, hM⟩, h1⟩
    replace hM := hM (fun _ => False) (fun _ h => h.elim)
    go_wp2_with fail
    refine (cL.out w1).mono ?_
    rintro e w2 ⟨rfl, h2⟩
    have hM2 := hM.same h2
    have hlo : mb < w2.heap.size := by obtain ⟨m, hm, _⟩ := hM2.map; exact hm.lt
    have hB2 := h1.trans (h2.mono h1.size)
    have hM3 := hM2.same ((Below.refl _ w2).alloc (Nat.le_refl _) (.cells #[.string ⟨#[97]⟩, .int .i64 1] 36))
    have hB3 := hB2.alloc hB2.size (.cells #[.string ⟨#[97]⟩, .int .i64 1] 36)
    have hL3 : ItemsAt (w2.alloc (.cells #[.string ⟨#[97]⟩, .int .i64 1] 36)) w2.heap.size (w2.alloc (.cells #[.string ⟨#[97]⟩, .int .i64 1] 36)).heap.size (.slice (some ⟨w2.heap.size, 0, none⟩) 1 1) la1 := by
      have h2 : ItemsAt (w2.alloc (.cells #[.string ⟨#[97]⟩, .int .i64 1] 36)) w2.heap.size (w2.heap.size + 1) (.slice (some ⟨w2.heap.size, 0, none⟩) 1 1) la1 := Sl.new w2 #[.string ⟨#[97]⟩, .int .i64 1] 36 (n := 1) rfl (by unfold maxLen; omega)
      exact h2.wide (Nat.le_refl _) (by simp)
    have HM3 := Lib.hid hM3
    have HB3 := Lib.hid hB3
    have HL3 := Lib.hid hL3
    clear hM hM2 hB2 hM3 hB3 hL3 h1 h2
    go_wp2
    go_loopw [5] (fun i wr => ∃ k : Nat, k ≤ 256 ∧ i = .int .i64 k ∧ Below w.heap.size w wr ∧ MvAt wr b mb (fun _ => False) (ways f k) ∧ ItemsAt wr w2.heap.size wr.heap.size (.slice (some ⟨w2.heap.size, 0, none⟩) 1 1) la1) (fun i _ => 256 - (intOf i).toNat)
    case atStart => exact ⟨0, by omega, rfl, HB3.out, HM3.out, HL3.out⟩
    case round =>
      obtain ⟨k, hk, rfl, hB, hMk, hLk⟩ := hrel
      by_cases hlt : k < 256
      · have hd : decide ((k : Int) < 256) = true := by simp; omega
        have cG := go_calls (f + k) 0 1 la1 (.slice (some ⟨w2.heap.size, 0, none⟩) 1 1) b mb _ (ways f k) wr hMk (hLk.wide (Nat.zero_le _) (Nat.le_refl _)) fits1 (by have := hR1.out; omega) (by have := hR2.out; omega)
        rw [go_full f k hR1.out hR2.out hlt] at cG
        have CG := Lib.hid cG
        have hwr : wrap64 (f + (k : Int)) = f + k := by have := hR1.out; have := hR2.out; unfold wrap64; omega
        clear cG hMk
        have HLk := Lib.hid hLk
        have HB := Lib.hid hB
        clear hLk hB
        go_wp2_with fail
        refine CG.out.mono ?_
        rintro e w4 ⟨rfl, hM4, hg4⟩
        have hL4 := past HLk.out hg4 hlo
        have hB4 := below_far HB.out hg4 (Nat.le_refl _) hlm
        go_wp2
        go_roundw
        case rel => exact ⟨k + 1, by omega, by go_num, hB4, hM4, hL4⟩
        case measure => simp [intOf]; omega
      · obtain rfl : k = 256 := by omega
        have hd : decide (((256 : Nat) : Int) < 256) = false := by decide
        have cG := Lib.hid (go_calls (f + 256) 0 1 la1 (.slice (some ⟨w2.heap.size, 0, none⟩) 1 1) b mb _ (ways f 256) wr hMk (hLk.wide (Nat.zero_le _) (Nat.le_refl _)) fits1 (by have := hR1.out; omega) (by have := hR2.out; omega))
        rw [go_over f hR1.out hR2.out] at cG
        have hwr : wrap64 (f + 256) = f + 256 := by have := hR1.out; have := hR2.out; unfold wrap64; omega
        have HLk := Lib.hid hLk
        have HB := Lib.hid hB
        clear hLk hB hMk
        go_wp2_with fail
        refine cG.out.mono ?_
        rintro e w4 ⟨rfl, hM4, hg4⟩
        have hL4 := past HLk.out hg4 hlo
        have hB4 := below_far HB.out hg4 (Nat.le_refl _) hlm
        clear cG HLk HB hg4
        go_wp2_with fail
        have cF := Lib.hid (forget_calls f b mb _ _ _ hM4 (by have := hR1.out; omega) (by have := hR2.out; omega))
        rw [forget_full f] at cF
        refine cF.out.mono ?_
        clear cF hM4
        rintro e w5 ⟨rfl, hM5, hg5⟩
        have hL5 := past hL4 hg5 hlo
        have hB5 := below_far hB4 hg5 (Nat.le_refl _) hlm
        clear hL4 hB4 hg5
        go_wp2_with fail
        have cU := Lib.hid (under_calls 0 1 b mb _ _ _ hM5)
        rw [under_full f] at cU
        refine cU.out.mono ?_
        clear cU
        rintro e w6 ⟨⟨uv, rfl, hu⟩, h6⟩
        have hM6 := hM5.same h6
        have hL6 := hL5.mono h6 h6.size
        have hB6 := hB5.trans (h6.mono hB5.size)
        have hs5 : w2.heap.size ≤ w5.heap.size := by obtain ⟨b', o', e, h1, h2, -⟩ := hL5.cellAt (j := 0) (by simp [la1]); omega
        have hU6 := ItemsAt.of_own hu
        obtain ⟨Au, cu, rfl, -⟩ := hU6.form
        clear hM5 hL5 hB5 h6 hu
        go_wp2_with fail
        have cC := Lib.hid (come_calls f b mb _ _ _ hM6 (by have := hR1.out; omega) (by have := hR2.out; omega))
        rw [come_full f] at cC
        refine cC.out.mono ?_
        clear cC hM6
        rintro e w7 ⟨⟨xv, rfl, hx⟩, hM7, hg7⟩
        have hL7 := past hL6 hg7 hlo
        have hU7 := past hU6 hg7 (by omega)
        have hB7 := below_far hB6 hg7 (Nat.le_refl _) hlm
        obtain ⟨Ax, cx, rfl, -⟩ := (ItemsAt.of_own hx).form
        clear hL6 hU6 hB6 hg7 hx
        obtain ⟨ub, uo, rfl, -, -, u0, u1⟩ := hU7.cellAt (j := 0) (by simp)
        simp only [List.getElem_cons_zero] at u0 u1
        go_wp2_with fail
        have cF := Lib.hid (forget_calls f b mb _ _ _ hM7 (by have := hR1.out; omega) (by have := hR2.out; omega))
        rw [forget_first f] at cF
        refine cF.out.mono ?_
        clear cF hM7
        rintro e w8 ⟨rfl, hM8, hg8⟩
        have hL8 := past hL7 hg8 hlo
        have hB8 := below_far hB7 hg8 (Nat.le_refl _) hlm
        clear hL7 hU7 hB7 hg8
        go_wp2_with fail
        have cG := Lib.hid (go_calls (f + 256) 0 1 la1 (.slice (some ⟨w2.heap.size, 0, none⟩) 1 1) b mb _ _ _ hM8 (hL8.wide (Nat.zero_le _) (Nat.le_refl _)) fits1 (by have := hR1.out; omega) (by have := hR2.out; omega))
        rw [go_again f hR1.out hR2.out] at cG
        refine cG.out.mono ?_
        rintro e w9 ⟨rfl, -, hg9⟩
        have hB9 := below_far hB8 hg9 (Nat.le_refl _) hlm
        clear cG hM8 hL8 hB8 hg9
        go_wp2
        go_ret
        exact ⟨rfl, hB9⟩
end Mv
end Go.Proofs.Ytdbkkldgobkjcaa
