/-
  The laws: lives.
-/
import Derived.Test.YtlhpdalfnjhokaaSkN
namespace Go.Proofs.Ytlhpdalfnjhokaa
open Go.RowKit Go.Maps
namespace Sk
open It Al Kp
attribute [local go_sem] Oper.semAt_some
/-- the letter a -/
def aL : ByteArray := ⟨#[97]⟩
def sA1 : Stk := [([97], [5, 0, 0, 0, 5, 0, 0, 0, 0, 0, 0])]
def sA2 : Stk := [([97], [3, 0, 0, 0, 5, 0, 0, 0, 0, 0, 2])]
theorem do_one : doS [] 1 [(aL, 5)] = (sA1, 0) := by decide +kernel
theorem do_two : doS sA1 10 [(aL, 2)] = (sA2, 0) := by decide +kernel
theorem tot_A : totR [sA2, []] [97] = [3, 0, 0, 0, 5, 0, 0, 0, 0, 0, 2] := by decide +kernel
theorem totV_A : totV ⟨#[97]⟩ [sA2, []] = .agg #[.string ⟨#[97]⟩, .int .i64 3, .int .i64 0, .int .i64 0, .int .i64 0, .int .i64 5, .int .i64 0, .int .i64 0, .int .i64 0, .int .i64 0, .int .i64 0, .int .i64 2, .int .i64 2] := by
  unfold totV totC
  rw [show (⟨#[97]⟩ : ByteArray).data.toList = [97] from rfl, tot_A, show wayT [3, 0, 0, 0, 5, 0, 0, 0, 0, 0, 2] = 2 by decide +kernel]
  rfl
theorem keys_A : allKeys [sA2, []] = [[97]] := by decide +kernel
theorem all_A : allS [sA2, []] = true := by decide +kernel
theorem neq_nilG (b : Nat) (w : World) : (binOp .neq 35 (.func (.func 25) #[] #[.pointer (some ⟨b, 0, none⟩)]) .nilFunc).run Try.prog w = .ok (.bool true) w := by kernel_rfl
theorem eql_nilG (b : Nat) (w : World) : (binOp .eql 35 (.func (.func 25) #[] #[.pointer (some ⟨b, 0, none⟩)]) .nilFunc).run Try.prog w = .ok (.bool false) w := by kernel_rfl
theorem free_field (a0 a1 a2 a3 : Int) (W : World) : (Instr.field 23 (.agg #[.int .i64 a0, .int .i64 a1, .int .i64 a2, .int .i64 a3]) 0).run Try.prog W = .ok (.int .i64 a0) W := by kernel_rfl
theorem fits_one : Fits [(aL, 5)] := by
  intro x hx
  simp only [List.mem_singleton] at hx
  subst hx
  exact ⟨by decide +kernel, by decide, by decide⟩
theorem fits_two : Fits [(aL, 2)] := by
  intro x hx
  simp only [List.mem_singleton] at hx
  subst hx
  exact ⟨by decide +kernel, by decide, by decide⟩
/-- some stocks, each with its own blocks -/
structure Many (w : World) (base : Nat) (cs : List (Nat × Nat)) (ss : List Stk) : Prop where
  len : cs.length = ss.length
  at_ : ∀ (i : Nat) (c : Nat × Nat) (s : Stk), cs[i]? = some c → ss[i]? = some s → StkAt w base c.1 c.2 s
  apart : ∀ (i j : Nat) (c d : Nat × Nat), cs[i]? = some c → cs[j]? = some d → i ≠ j → c.1 ≠ d.1 ∧ c.1 ≠ d.2
section
variable {w w' : World} {base : Nat} {cs : List (Nat × Nat)} {ss : List Stk}
theorem Many.nil (w : World) (base : Nat) : Many w base [] [] := ⟨rfl, fun i c s h => by simp at h, fun i j c d h => by simp at h⟩
theorem Many.same (h : Many w base cs ss) (hb : Below w.heap.size w w') : Many w' base cs ss := ⟨h.len, fun i c s h1 h2 => (h.at_ i c s h1 h2).same hb, h.apart⟩
theorem Many.get {c : Nat × Nat} (h : Many w base cs ss) (i : Nat) (hi : cs[i]? = some c) : ∃ s, ss[i]? = some s ∧ StkAt w base c.1 c.2 s := by
  have hl := (List.getElem?_eq_some_iff.1 hi).1
  have h2 : i < ss.length := by rw [← h.len]; exact hl
  exact ⟨ss[i], List.getElem?_eq_getElem h2, h.at_ i c _ hi (List.getElem?_eq_getElem h2)⟩
theorem Many.lt {c : Nat × Nat} (h : Many w base cs ss) {i : Nat} (hi : cs[i]? = some c) : c.1 < w.heap.size ∧ c.2 < w.heap.size := by
  obtain ⟨s, -, h2⟩ := h.get i hi
  exact ⟨h2.ob.lt, h2.map.lt⟩
theorem Many.snoc {b mb : Nat} {s : Stk} (h : Many w base cs ss) (hb : Below w.heap.size w w') (h2 : StkAt w' w.heap.size b mb s) (hbase : base ≤ w.heap.size) : Many w' base (cs ++ [(b, mb)]) (ss ++ [s]) := by
  have hlo := h2.lo
  have hsplit : ∀ {α : Type} (l : List α) (x : α) (i : Nat) (y : α), (l ++ [x])[i]? = some y → (i < l.length ∧ l[i]? = some y) ∨ (i = l.length ∧ y = x) := by
    intro α l x i y h
    rcases Nat.lt_or_ge i l.length with hl | hl
    · rw [List.getElem?_append_left hl] at h
      exact .inl ⟨hl, h⟩
    · rw [List.getElem?_append_right hl] at h
      have := (List.getElem?_eq_some_iff.1 h).1
      simp only [List.length_cons, List.length_nil] at this
      have he : i = l.length := by omega
      subst he
      simp only [Nat.sub_self, List.getElem?_cons_zero, Option.some.injEq] at h
      exact .inr ⟨rfl, h.symm⟩
  refine ⟨by simp [h.len], fun i c t h1 h3 => ?_, fun i j c d h1 h3 hij => ?_⟩
  · rcases hsplit _ _ _ _ h1 with ⟨k1, k2⟩ | ⟨rfl, rfl⟩
    · rcases hsplit _ _ _ _ h3 with ⟨k3, k4⟩ | ⟨k3, k4⟩
      · exact (h.at_ i c t k2 k4).same hb
      · have := h.len
        omega
    · rcases hsplit _ _ _ _ h3 with ⟨k3, k4⟩ | ⟨k3, rfl⟩
      · have := h.len
        omega
      · exact ⟨h2.ob, h2.map, h2.ok, h2.ne, ⟨Nat.le_trans hbase hlo.1, Nat.le_trans hbase hlo.2⟩, h2.len⟩
  · rcases hsplit _ _ _ _ h1 with ⟨k1, k2⟩ | ⟨k1, rfl⟩
    · rcases hsplit _ _ _ _ h3 with ⟨k3, k4⟩ | ⟨k3, rfl⟩
      · exact h.apart i j c d k2 k4 hij
      · have := h.lt k2
        exact ⟨by dsimp only; omega, by dsimp only; omega⟩
    · rcases hsplit _ _ _ _ h3 with ⟨k3, k4⟩ | ⟨k3, rfl⟩
      · have := h.lt k4
        exact ⟨by dsimp only; omega, by dsimp only; omega⟩
      · omega
theorem Many.put {b mb mb' : Nat} {s' : Stk} {i : Nat} (h : Many w base cs ss) (hi : cs[i]? = some (b, mb)) (h2 : StkAt w' base b mb' s') (hm : mb' = mb ∨ w.heap.size ≤ mb') (hk : DoKept b w w') : Many w' base (cs.set i (b, mb')) (ss.set i s') := by
  refine ⟨by simp [h.len], fun j c t h1 h3 => ?_, fun j k c d h1 h3 hjk => ?_⟩
  · rw [List.getElem?_set] at h1 h3
    by_cases hij : i = j
    · subst hij
      have hl := (List.getElem?_eq_some_iff.1 hi).1
      have hl2 : i < ss.length := by rw [← h.len]; exact hl
      simp only [if_pos, hl, hl2, Option.some.injEq] at h1 h3
      subst h1 h3
      exact h2
    · rw [if_neg hij] at h1 h3
      have ha := h.apart i j _ _ hi h1 hij
      have hl := h.lt h1
      exact (h.at_ j c t h1 h3).kept hk ⟨hl.1, fun e => ha.1 e.symm⟩ ⟨hl.2, fun e => ha.2 e.symm⟩
  · rw [List.getElem?_set] at h1 h3
    have hli := h.lt hi
    by_cases hij : i = j
    · subst hij
      rw [if_neg hjk] at h3
      have hl := (List.getElem?_eq_some_iff.1 hi).1
      simp only [if_pos, hl, Option.some.injEq] at h1
      subst h1
      have ha := h.apart i k _ _ hi h3 hjk
      exact ⟨ha.1, ha.2⟩
    · rw [if_neg hij] at h1
      by_cases hik : i = k
      · subst hik
        have hl := (List.getElem?_eq_some_iff.1 hi).1
        simp only [if_pos, hl, Option.some.injEq] at h3
        subst h3
        have ha := h.apart j i _ _ h1 hi hjk
        have hlj := h.lt h1
        exact ⟨ha.1, hm.elim (fun e => e ▸ ha.2) (fun e => by dsimp only; omega)⟩
      · rw [if_neg hik] at h3
        exact h.apart j k _ _ h1 h3 hjk
theorem Many.sts {v : Value} (h : Many w base cs ss) (hs : Sl w 0 w.heap.size 1 v ss.length (cs.map fun c => .pointer (some ⟨c.1, 0, none⟩))) : StsAt w base v ss := by
  refine ⟨_, by simp [h.len], hs, fun i hi => ?_⟩
  have hc : i < cs.length := by rw [h.len]; exact hi
  have hci := List.getElem?_eq_getElem hc
  refine ⟨.pointer (some ⟨cs[i].1, 0, none⟩), by rw [List.getElem?_map, hci]; rfl, .inr ⟨cs[i].1, cs[i].2, rfl, h.at_ i _ _ hci (List.getElem?_eq_getElem hi)⟩⟩
end
set_option maxRecDepth 100000 in
set_option maxHeartbeats 8000000 in
theorem lives_calls (w : World) : Calls Try.prog 8 #[] w fun e w' => e = .returned (.bool true) ∧ Below w.heap.size w w' := by
  have hnq := neq_nilG
  have hfld := free_field
  go_enter Try.func8, Try.ntmps8
  go_wp2_with fail
  refine (new_calls _).mono ?_
  rintro e w1 ⟨⟨b1, mb1, rfl, h1⟩, hb1⟩
  go_wp2_with fail
  refine (new_calls _).mono ?_
  rintro e w2 ⟨⟨b2, mb2, rfl, h2⟩, hb2⟩
  have M2 : Many w2 w.heap.size [(b1, mb1), (b2, mb2)] [[], []] := ((Many.nil w w.heap.size).snoc hb1 h1 (Nat.le_refl _)).snoc hb2 h2 hb1.size
  have HB2 := Lib.hid (hb1.trans (hb2.mono hb1.size))
  have hl1 := (M2.lt (i := 0) rfl).1
  have hl2 := (M2.lt (i := 1) rfl).1
  have hg1 := h1.lo.1
  have hs0 := hb1.size
  have hs2 := hb2.size
  clear hb1 hb2 h1 h2
  go_wp2_with fail
  have hS3 := Sl.new w2 #[.pointer (some ⟨b1, 0, none⟩), .pointer (some ⟨b2, 0, none⟩)] 53 (n := 2) (size := 1) rfl (by unfold maxLen; omega)
  have ha3 := (Below.refl w2.heap.size w2).alloc (Nat.le_refl _) (.cells #[.pointer (some ⟨b1, 0, none⟩), .pointer (some ⟨b2, 0, none⟩)] 53)
  have M3 := M2.same ha3
  have HB3 := Lib.hid (HB2.out.trans (ha3.mono HB2.out.size))
  have hs3 : (w2.alloc (.cells #[.pointer (some ⟨b1, 0, none⟩), .pointer (some ⟨b2, 0, none⟩)] 53)).heap.size = w2.heap.size + 1 := by simp
  generalize w2.alloc (.cells #[.pointer (some ⟨b1, 0, none⟩), .pointer (some ⟨b2, 0, none⟩)] 53) = w3 at *
  clear M2 ha3
  have hI4 := Sl.new w3 #[.string ⟨#[97]⟩, .int .i64 5] 64 (n := 1) (size := 2) rfl (by unfold maxLen; omega)
  have ha4 := (Below.refl w3.heap.size w3).alloc (Nat.le_refl _) (.cells #[.string ⟨#[97]⟩, .int .i64 5] 64)
  have M4 := M3.same ha4
  have hS4 := hS3.mono (B' := w2.heap.size + 1) (ha4.mono (by omega)) (Nat.le_refl _)
  have HB4 := Lib.hid (HB3.out.trans (ha4.mono HB3.out.size))
  have hs4 : (w3.alloc (.cells #[.string ⟨#[97]⟩, .int .i64 5] 64)).heap.size = w3.heap.size + 1 := by simp
  clear M3 ha4 hS3
  rw [← hs3]
  generalize w3.alloc (.cells #[.string ⟨#[97]⟩, .int .i64 5] 64) = w4 at *
  have cD := do_calls (M4.at_ 0 _ _ rfl rfl) 1 [(aL, 5)] (.slice (some ⟨w3.heap.size, 0, none⟩) 1 1) (ItemsAt.wide (lo := w3.heap.size) (B := w3.heap.size + 1) hI4 (Nat.zero_le _) (by omega)) fits_one
  rw [do_one] at cD
  refine cD.mono ?_
  clear cD hI4
  rintro e w5 ⟨rfl, ⟨mb5, h5, hm5⟩, hk5⟩
  have M5 : Many w5 w.heap.size [(b1, mb5), (b2, mb2)] [sA1, []] := M4.put (i := 0) rfl h5 hm5 hk5
  have hS5 := hk5.sl hS4 (fun i h1 h2 => ⟨by omega, by dsimp only; omega⟩)
  have HB5 := Lib.hid (HB4.out.trans (hk5.below (B := w.heap.size) (fun i hi => ⟨by have := HB4.out.size; omega, by dsimp only; omega⟩)))
  have hs5 := hk5.size
  clear M4 hS4 h5 hm5 hk5
  go_wp2_with fail
  have hI6 := Sl.new w5 #[.string ⟨#[97]⟩, .int .i64 2] 64 (n := 1) (size := 2) rfl (by unfold maxLen; omega)
  have ha6 := (Below.refl w5.heap.size w5).alloc (Nat.le_refl _) (.cells #[.string ⟨#[97]⟩, .int .i64 2] 64)
  have M6 := M5.same ha6
  have hS6 := hS5.mono (B' := w2.heap.size + 1) (ha6.mono (by omega)) (Nat.le_refl _)
  have HB6 := Lib.hid (HB5.out.trans (ha6.mono HB5.out.size))
  have hs6 : (w5.alloc (.cells #[.string ⟨#[97]⟩, .int .i64 2] 64)).heap.size = w5.heap.size + 1 := by simp
  clear M5 ha6 hS5
  generalize w5.alloc (.cells #[.string ⟨#[97]⟩, .int .i64 2] 64) = w6 at *
  have cD := do_calls (M6.at_ 0 _ _ rfl rfl) 10 [(aL, 2)] (.slice (some ⟨w5.heap.size, 0, none⟩) 1 1) (ItemsAt.wide (lo := w5.heap.size) (B := w5.heap.size + 1) hI6 (Nat.zero_le _) (by omega)) fits_two
  rw [do_two] at cD
  refine cD.mono ?_
  clear cD hI6
  rintro e w7 ⟨rfl, ⟨mb7, h7, hm7⟩, hk7⟩
  have M7 : Many w7 w.heap.size [(b1, mb7), (b2, mb2)] [sA2, []] := M6.put (i := 0) rfl h7 hm7 hk7
  have hS7 := hk7.sl hS6 (fun i h1 h2 => ⟨by omega, by dsimp only; omega⟩)
  have HB7 := Lib.hid (HB6.out.trans (hk7.below (B := w.heap.size) (fun i hi => ⟨by have := HB6.out.size; omega, by dsimp only; omega⟩)))
  have hs7 := hk7.size
  have HS := Lib.hid (M7.sts (v := .slice (some ⟨w2.heap.size, 0, none⟩) 2 2) (hS7.wide (Nat.zero_le _) (by omega)))
  clear M6 hS6 h7 hm7 hk7 M7 hS7
  have cT := total_calls [sA2, []] ⟨#[97]⟩ (by decide +kernel) _ w7 w.heap.size HS.out
  rw [totV_A] at cT
  go_wp2_with fail
  refine cT.mono ?_
  clear cT
  rintro e w8 ⟨rfl, hb8⟩
  have HS8 := Lib.hid (HS.out.same hb8)
  have HB8 := Lib.hid (HB7.out.trans (hb8.mono HB7.out.size))
  clear hb8
  have o9 := Ob.new w8 27 #[.string ⟨#[97]⟩, .int .i64 3, .int .i64 0, .int .i64 0, .int .i64 0, .int .i64 5, .int .i64 0, .int .i64 0, .int .i64 0, .int .i64 0, .int .i64 0, .int .i64 2, .int .i64 2]
  go_wp2_with fail
  have ha9 := (Below.refl w8.heap.size w8).alloc (Nat.le_refl _) (.cells #[.string ⟨#[97]⟩, .int .i64 3, .int .i64 0, .int .i64 0, .int .i64 0, .int .i64 5, .int .i64 0, .int .i64 0, .int .i64 0, .int .i64 0, .int .i64 0, .int .i64 2, .int .i64 2] 27)
  have HS9 := Lib.hid (HS8.out.same ha9)
  have HB9 := Lib.hid (HB8.out.trans (ha9.mono HB8.out.size))
  clear ha9 o9
  generalize w8.alloc (.cells #[.string ⟨#[97]⟩, .int .i64 3, .int .i64 0, .int .i64 0, .int .i64 0, .int .i64 5, .int .i64 0, .int .i64 0, .int .i64 0, .int .i64 0, .int .i64 0, .int .i64 2, .int .i64 2] 27) = w9 at *
  have cK := kept_calls ⟨#[97]⟩ 3 0 0 0 5 0 0 0 0 0 2 2 w9
  rw [show keptT 3 0 0 0 5 0 0 0 0 0 2 2 = true by decide +kernel] at cK
  refine cK.mono ?_
  clear cK
  rintro e w10 ⟨rfl, hb10⟩
  have HS10 := Lib.hid (HS9.out.same hb10)
  have HB10 := Lib.hid (HB9.out.trans (hb10.mono HB9.out.size))
  clear hb10
  go_wp2_with fail
  have cA := all_calls [sA2, []] _ w10 w.heap.size HS10.out (by decide)
  rw [all_A] at cA
  refine cA.mono ?_
  clear cA
  rintro e w11 ⟨rfl, hb11⟩
  have HS11 := Lib.hid (HS10.out.same hb11)
  have HB11 := Lib.hid (HB10.out.trans (hb11.mono HB10.out.size))
  clear hb11
  go_wp2_with fail
  have cT := totals_calls [sA2, []] _ w11 w.heap.size HS11.out (by decide)
  rw [keys_A] at cT
  refine cT.mono ?_
  clear cT
  rintro e w12 ⟨⟨u, rfl, hu⟩, hb12⟩
  obtain ⟨A, c, rfl, -⟩ := (Sl.of_own hu : Sl _ _ _ 13 u 1 _).at_
  have HB12 := Lib.hid (HB11.out.trans (hb12.mono HB11.out.size))
  clear hb12 hu
  go_wp2_with fail
  refine (ggoods_calls _ rfl _).mono ?_
  rintro e w13 ⟨rfl, rfl⟩
  have ha13 := (Below.refl w12.heap.size w12).alloc (Nat.le_refl _) (.cells #[.slice (some ⟨w2.heap.size, 0, none⟩) 2 2] 33)
  have HB13 := Lib.hid (HB12.out.trans (ha13.mono HB12.out.size))
  clear ha13
  go_wp2_with fail
  generalize w12.alloc (.cells #[.slice (some ⟨w2.heap.size, 0, none⟩) 2 2] 33) = w13 at *
  have cL := glevel_calls 1 0 0 0 2 0 0 0 w13
  rw [show wrap64 (1 + 2) = 3 by decide +kernel, show wrap64 (0 + 0) = 0 by decide +kernel] at cL
  refine cL.mono ?_
  clear cL
  rintro e w14 ⟨rfl, hb14⟩
  have HB14 := Lib.hid (HB13.out.trans (hb14.mono HB13.out.size))
  clear hb14
  go_wp2_with fail
  have cK := kept_calls ⟨#[]⟩ 0 0 0 0 0 0 0 0 0 0 0 (-1) w14
  rw [show keptT 0 0 0 0 0 0 0 0 0 0 0 (-1) = false by decide +kernel] at cK
  refine cK.mono ?_
  clear cK
  rintro e w15 ⟨rfl, hb15⟩
  have HB15 := HB14.out.trans (hb15.mono HB14.out.size)
  go_wp2_with fail
  go_ret
  exact ⟨rfl, HB15⟩
end Sk
end Go.Proofs.Ytlhpdalfnjhokaa
