/-
  cells: the maker's Num, Text, Done; the taker: Take, may, fault, Num, Left, Done.
  cells: the taker's Text, Left, Done.
  cells of numbers: the first number of bytes, as the document reads it.
  cells: the document's taker (Num, Text) and maker (put, Num, Text).
  cells: the document's maker (put, Num, Text).
  a row of items of the call's own, read as a list in memory.
  items: what is taken of a code: fault, Take, Decode; the document's Read and Decode.
-/
import Derived.Test.YthfpfomifebpbaaGreatNx2
import Derived.Lib.AppendStr
import Derived.Test.YthfpfomifebpbaaGreatNz1
import Derived.Test.YthfpfomifebpbaaGreatNz5

set_option linter.unusedVariables false
set_option linter.unusedSimpArgs false
namespace Go.Proofs.YthfpfomifebpbaaGreat
open Go.RowKit
namespace Ce

theorem parts_nil {w : World} {B : Nat} : CatB.Parts w B [] := ⟨(fun _ hp => nomatch hp), (fun _ hp => nomatch hp)⟩
theorem parts_cons {w : World} {B n c lo : Nat} {A : Option Addr} {x : List UInt8} {r : List CatB.Part} (h : BytesAt w lo B (.slice A n c) x) (hr : CatB.Parts w B r) : CatB.Parts w B ((A, n, c, bytesV x) :: r) := by
  have hn : n = x.length := by obtain ⟨A', c', e, _⟩ := h.at_; cases e; rfl
  subst hn
  refine ⟨fun p hp => ?_, fun p hp => ?_⟩
  · rcases List.mem_cons.1 hp with rfl | hp
    · exact h.wide (Nat.zero_le _) (Nat.le_refl _)
    · exact hr.sl p hp
  · rcases List.mem_cons.1 hp with rfl | hp
    · exact bytesV_one x
    · exact hr.one p hp
theorem Mk.alloc {w : World} {bm : Nat} {Fr : Nat → Prop} {s : List UInt8 × Bool} (h : Mk w bm Fr s) (o : Obj) : Mk (w.alloc o) bm Fr s :=
  h.later ((Below.refl _ w).alloc (Nat.le_refl _) o) fun i hi => ⟨.inl hi, by have := h.2.2.1 i hi; simp; omega⟩
theorem Mk.same {w w' : World} {bm : Nat} {Fr : Nat → Prop} {s : List UInt8 × Bool} (h : Mk w bm Fr s) (hb : Below w.heap.size w w') : Mk w' bm Fr s :=
  h.later hb fun i hi => ⟨.inl hi, by have := h.2.2.1 i hi; have := hb.size; omega⟩

set_option maxRecDepth 100000 in
set_option maxHeartbeats 1000000 in
theorem mnum_calls (n : Int) (bm : Nat) (Fr : Nat → Prop) (s : List UInt8 × Bool) (w : World) (hM : Mk w bm Fr s) (h0 : -9223372036854775808 ≤ n) (h1 : n ≤ 9223372036854775807) :
    Calls Tryz.prog 49 #[.pointer (some ⟨bm, 0, none⟩), .int .i64 n] w fun e w' => e = .returned (.pointer (some ⟨bm, 0, none⟩)) ∧ Mk w' bm Fr (mPut s (numC n)) ∧ Kept Fr w w' := by
  have cN := Lib.hid (fun W => num_calls n W h0 h1)
  have hl := (numC_len n).2
  have hFlt := Lib.hid hM.2.2.1
  have HM := Lib.hid hM
  clear hM
  generalize numC n = x at *
  go_enter Tryz.func49, Tryz.ntmps49
  go_wp2_with fail
  refine (cN.out _).mono ?_
  rintro e W1 ⟨⟨v, rfl, hv⟩, hB⟩
  obtain ⟨A, c, rfl, -⟩ := hv.form
  have hM1 := Lib.hid (HM.out.same hB)
  have hpar := Lib.hid (hv.wide (lo' := 0) (Nat.zero_le _) (Nat.le_refl _))
  have cP := Lib.hid (put_calls x [(A, x.length, c, bytesV x)] W1.heap.size bm Fr s (W1.alloc (.cells #[.slice A x.length c] 39)) (hM1.out.alloc _) (by simp) (by simp)
    (fun j h => by
      match j, h with
      | 0, _ => unfold World.cell?; rw [heap_alloc_new]; rfl)
    (parts_cons (Sl.mono hpar.out ((Below.refl _ W1).alloc (Nat.le_refl _) _) (by simp)) parts_nil) (by simp [CatB.all]) (by simp [CatB.lens]) (by omega))
  clear hv
  go_wp2_with fail
  refine cP.out.mono ?_
  rintro e W2 ⟨rfl, hM2, hK2⟩
  go_wp2
  go_ret
  exact ⟨rfl, hM2, ((Kept.of_below hB hFlt.out).trans (Kept.of_below ((Below.refl _ W1).alloc (Nat.le_refl _) _) (fun i hi => Nat.lt_of_lt_of_le (hFlt.out i hi) hB.size))).trans hK2⟩

theorem conv_at {P : Program} {src dst e : TypeId} (hs : P.underlying src = some .string) (hd : P.underlying dst = some (.slice e)) (he : P.underlying e = some (.int .u8)) (s : ByteArray) (w : World) (hl : s.size ≤ 1000000) :
    ∃ c W', (convert src dst (.string s)).run P w = .ok (.slice (some ⟨w.heap.size, 0, none⟩) s.size c) W' ∧ BytesAt W' w.heap.size W'.heap.size (.slice (some ⟨w.heap.size, 0, none⟩) s.size c) s.data.toList ∧ Below w.heap.size w W' := by
  refine ⟨_, _, run_bytes_of_string w src dst e s hs hd he, ?_, ((Below.refl w.heap.size w).drew).alloc (Nat.le_refl _) _⟩
  have hge := grownCap_ge w s.size 0 e
  have hG := grownCap_le_maxLen w s.size 0 e (by unfold maxLen; omega)
  generalize grownCap w s.size 0 e = G at *
  have hsz : s.data.toList.length = s.size := Array.length_toList
  refine ⟨by rw [bytesV_length]; simp, _, _, by rw [hsz], by omega, hG, fun hn => ⟨w.heap.size, 0, rfl, Nat.le_refl _, by rw [World.size_alloc]; exact Nat.lt_succ_self _, fun j hj => ?_⟩⟩
  have := World.cell?_alloc_mark w.drew (bytesRow s G) e ((bytesRow s G).size, (bytesRow s G).size + 1) (0 + j)
  rw [show w.drew.heap.size = w.heap.size from rfl] at this
  rw [this, Nat.zero_add]
  have hjs : j < s.data.size := by simpa using hj
  rw [bytesRow_at s G j hjs]
  unfold bytesV
  rw [List.getElem?_map, Array.getElem?_toList, Array.getElem?_eq_getElem hjs]
  rfl

set_option maxRecDepth 100000 in
set_option maxHeartbeats 1000000 in
theorem mtext_calls (t : ByteArray) (bm : Nat) (Fr : Nat → Prop) (s : List UInt8 × Bool) (w : World) (hM : Mk w bm Fr s) (ht : t.size ≤ 900000) :
    Calls Tryz.prog 88 #[.pointer (some ⟨bm, 0, none⟩), .string t] w fun e w' => e = .returned (.pointer (some ⟨bm, 0, none⟩)) ∧ Mk w' bm Fr (mPut s (numC t.size ++ t.data.toList)) ∧ Kept Fr w w' := by
  have cN := Lib.hid (fun W => num_calls t.size W (by omega) (by omega))
  have hl := (numC_len t.size).2
  have hFlt := Lib.hid hM.2.2.1
  have HM := Lib.hid hM
  clear hM
  have htl : t.data.toList.length = t.size := Array.length_toList
  have HTL := Lib.hid htl
  clear htl
  generalize hx : numC t.size = x at *
  have HX := Lib.hid hx
  clear hx
  go_enter Tryz.func88, Tryz.ntmps88
  go_wp2_with fail
  refine (cN.out _).mono ?_
  rintro e W1 ⟨⟨v, rfl, hv⟩, hB⟩
  obtain ⟨A, c, rfl, -⟩ := hv.form
  have hM1 := Lib.hid (HM.out.same hB)
  obtain ⟨c2, W2, hcv, hb2, hB2⟩ := conv_at (P := Tryz.prog) (src := 9) (dst := 39) Tryz.underlying9 Tryz.underlying39 Tryz.underlying5 t W1 (by omega)
  have hM2 := Lib.hid (hM1.out.same hB2)
  have hpar := Lib.hid ((hv.mono hB2 hB2.size).wide (lo' := 0) (Nat.zero_le _) (Nat.le_refl _))
  have hpar2 := Lib.hid (hb2.wide (lo' := 0) (Nat.zero_le _) (Nat.le_refl _))
  have cP := Lib.hid (put_calls (x ++ t.data.toList) [(A, x.length, c, bytesV x), (some ⟨W1.heap.size, 0, none⟩, t.size, c2, bytesV t.data.toList)] W2.heap.size bm Fr s (W2.alloc (.cells #[.slice A x.length c, .slice (some ⟨W1.heap.size, 0, none⟩) t.size c2] 39)) (hM2.out.alloc _) (by simp) (by simp)
    (fun j h => by
      match j, h with
      | 0, _ => unfold World.cell?; rw [heap_alloc_new]; rfl
      | 1, _ => unfold World.cell?; rw [heap_alloc_new]; rfl)
    (parts_cons (Sl.mono hpar.out ((Below.refl _ W2).alloc (Nat.le_refl _) _) (by simp)) (parts_cons (Sl.mono hpar2.out ((Below.refl _ W2).alloc (Nat.le_refl _) _) (by simp)) parts_nil)) (by simp [CatB.all, bytesV_append]) (by simp [CatB.lens, HTL.out]) (by simp [HTL.out]; omega))
  clear hv hb2
  have hKK := Lib.hid ((Kept.of_below hB hFlt.out).trans ((Kept.of_below hB2 (fun i hi => Nat.lt_of_lt_of_le (hFlt.out i hi) hB.size)).trans (Kept.of_below ((Below.refl _ W2).alloc (Nat.le_refl _) (.cells #[.slice A x.length c, .slice (some ⟨W1.heap.size, 0, none⟩) t.size c2] 39)) (fun i hi => Nat.lt_of_lt_of_le (hFlt.out i hi) (Nat.le_trans hB.size hB2.size)))))
  go_wp2_with fail
  refine cP.out.mono ?_
  rintro e W3 ⟨rfl, hM3, hK3⟩
  go_wp2
  go_ret
  exact ⟨rfl, hM3, hKK.out.trans hK3⟩

set_option maxHeartbeats 1000000 in
theorem mdone_calls (bm : Nat) (Fr : Nat → Prop) (s : List UInt8 × Bool) (w : World) (hM : Mk w bm Fr s) (hs : s.2 = false) :
    Calls Tryz.prog 51 #[.pointer (some ⟨bm, 0, none⟩)] w fun e w' => (∃ v, e = .returned (.tuple #[v, .int .i64 0]) ∧ w'.ownsRow w.heap.size 5 1 v s.1.length (bytesV s.1)) ∧ Below w.heap.size w w' := by
  obtain ⟨S, long⟩ := s
  dsimp only at hs
  subst hs
  obtain ⟨hM1, hM2, hM3, v, hO, hR, hG⟩ := hM
  dsimp only at hM1 hO hR ⊢
  have cC := Lib.hid (cloneb_calls S v w ((BytesAt.of_own hR).wide (Nat.zero_le _) (Nat.le_refl _)) (by omega))
  obtain ⟨A, c, rfl, hc1, hc2⟩ := (BytesAt.of_own hR).form
  have g0 := hO.cell (j := 0) rfl
  have g1 := hO.cell (j := 1) rfl
  clear hM3 hG hR hc2
  go_enter Tryz.func51, Tryz.ntmps51
  go_wp2_with fail
  refine cC.out.mono ?_
  rintro e W1 ⟨⟨cv, rfl, hcv⟩, hB⟩
  obtain ⟨A1, c1, rfl, -⟩ := (BytesAt.of_own hcv).form
  go_wp2
  go_ret2
  exact ⟨⟨_, rfl, hcv⟩, hB⟩

/-- a taker: what is left, or a fault; the bytes lie below B -/
def Tk (T : TypeId) (w : World) (bt B : Nat) (st : Tst) : Prop :=
  B ≤ w.heap.size ∧ ∃ v l lo bad, Ob w bt T #[v, .bool bad] ∧ BytesAt w lo B v l ∧ (B ≤ bt ∨ bt < lo) ∧ st = (if bad = true then none else some l)
theorem Tk.none_form {T : TypeId} {w : World} {bt B : Nat} (h : Tk T w bt B none) : ∃ v, Ob w bt T #[v, .bool true] := by
  obtain ⟨_, v, l, lo, bad, h1, _, _, h4⟩ := h
  cases bad with
  | true => exact ⟨v, h1⟩
  | false => simp at h4
theorem Tk.some_form {T : TypeId} {w : World} {bt B : Nat} {l : List UInt8} (h : Tk T w bt B (some l)) : ∃ v lo, Ob w bt T #[v, .bool false] ∧ BytesAt w lo B v l ∧ (B ≤ bt ∨ bt < lo) := by
  obtain ⟨_, v, l', lo, bad, h1, h2, h3, h4⟩ := h
  cases bad with
  | true => simp at h4
  | false =>
    simp at h4
    subst h4
    exact ⟨v, lo, h1, h2, h3⟩
theorem Tk.kept {T : TypeId} {w w' : World} {bt B : Nat} {st : Tst} {row : Option Nat} (h : Tk T w bt B st) (hg : w.grownBy w' row) (h1 : some bt ≠ row) (h2 : ∀ g, row = some g → B ≤ g) : Tk T w' bt B st := by
  obtain ⟨h0, v, l, lo, bad, h3, h4, h5, h6⟩ := h
  exact ⟨Nat.le_trans h0 hg.size, v, l, lo, bad, h3.kept hg h1, Sl.grown h4 hg h0 (fun k e => .inr (h2 k e)), h5, h6⟩
theorem Tk.same {T : TypeId} {w w' : World} {bt B : Nat} {st : Tst} (h : Tk T w bt B st) (hb : Below w.heap.size w w') : Tk T w' bt B st := h.kept (only_of_below hb none) (by simp) (by simp)
theorem Tk.ofBad {T : TypeId} {w w' : World} {bt B : Nat} {v : Value} (ho : Ob w' bt T #[v, .bool true]) {l : List UInt8} {lo : Nat} (hb : BytesAt w lo B v l) (hB : B ≤ w.heap.size) (hne : B ≤ bt ∨ bt < lo) (hg : w.grownBy w' (some bt)) : Tk T w' bt B none :=
  ⟨Nat.le_trans hB hg.size, v, l, lo, true, ho, Sl.grown hb hg hB (fun k e => by cases e; exact hne.symm), hne, by simp⟩
theorem Tk.ofOk {T : TypeId} {w w' : World} {bt B : Nat} {v : Value} (ho : Ob w' bt T #[v, .bool false]) {l : List UInt8} {lo : Nat} (hb : BytesAt w lo B v l) (hB : B ≤ w.heap.size) (hne : B ≤ bt ∨ bt < lo) (hg : w.grownBy w' (some bt)) : Tk T w' bt B (some l) :=
  ⟨Nat.le_trans hB hg.size, v, l, lo, false, ho, Sl.grown hb hg hB (fun k e => by cases e; exact hne.symm), hne, rfl⟩
/-- what is left is no nil slice -/
def Sure (w : World) (bt : Nat) : Prop := ∃ b o n c, w.cell? ⟨bt, 0, none⟩ = some (.slice (some ⟨b, o, none⟩) n c)
theorem BytesAt.onFrom {w : World} {lo B n k c : Nat} {b o : Nat} {l : List UInt8} (h : BytesAt w lo B (.slice (some ⟨b, o, none⟩) n c) l) (hk : k ≤ l.length) :
    BytesAt w lo B (.slice (if c = k then some ⟨b, o, none⟩ else some ⟨b, o + k, none⟩) (n - k) (c - k)) (l.drop k) := by
  have hn : n = l.length := by obtain ⟨A', c', e, _⟩ := h.at_; cases e; rfl
  subst hn
  have := Sl.onFrom (k := k) h hk
  unfold BytesAt
  rw [List.length_drop, show bytesV (l.drop k) = (bytesV l).drop (k * 1) by simp [bytesV, List.map_drop]]
  rw [Nat.mul_one] at this ⊢
  exact this

theorem tmay_calls (bt : Nat) (bad : Bool) (w : World) (h : w.cell? ⟨bt, 1, none⟩ = some (.bool bad)) :
    Calls Tryz.prog 92 #[.pointer (some ⟨bt, 0, none⟩)] w fun e w' => e = .returned (.bool (!bad)) ∧ w = w' := by
  go_enter Tryz.func92, Tryz.ntmps92
  go_wp2
  go_ret
  exact ⟨rfl, rfl⟩
theorem fault_calls (bt : Nat) (u : Value) (w : World) (h : w.cell? ⟨bt, 1, none⟩ = some u) (hf : w.frozen? ⟨bt, 1, none⟩ = false) :
    Calls Tryz.prog 94 #[.pointer (some ⟨bt, 0, none⟩)] w fun e w' => e = .returned (.tuple #[]) ∧ w.setCell ⟨bt, 1, none⟩ (.bool true) = w' := by
  go_enter Tryz.func94, Tryz.ntmps94
  go_wp2
  go_end0
  exact ⟨rfl, rfl⟩

set_option maxHeartbeats 1000000 in
theorem take_calls (l : List UInt8) (v : Value) (w : World) (h : BytesAt w 0 w.heap.size v l) (hl : l.length ≤ 140737488351232) :
    Calls Tryz.prog 52 #[v] w fun e w' => (∃ bt, e = .returned (.pointer (some ⟨bt, 0, none⟩)) ∧ w.heap.size ≤ bt ∧ bt < w'.heap.size ∧ Tk 122 w' bt bt (some l)) ∧ Below w.heap.size w w' := by
  have cC := Lib.hid (cloneb_calls l v w h hl)
  obtain ⟨A, c, rfl, -⟩ := h.form
  clear hl h
  go_enter Tryz.func52, Tryz.ntmps52
  go_wp2_with fail
  refine cC.out.mono ?_
  rintro e W1 ⟨⟨cv, rfl, hcv⟩, hB⟩
  have hb1 := BytesAt.of_own hcv
  obtain ⟨A1, c1, rfl, -⟩ := hb1.form
  go_wp2
  go_ret
  refine ⟨⟨_, rfl, hB.size, by simp, by simp, _, l, w.heap.size, false, Ob.new _ _ _, Sl.below hb1 ((Below.refl _ W1).alloc (Nat.le_refl _) _), .inl (Nat.le_refl _), rfl⟩, hB.alloc hB.size _⟩

set_option maxRecDepth 100000 in
set_option maxHeartbeats 2000000 in
theorem tnum_calls (least most : Int) (bt B : Nat) (st : Tst) (w : World) (h : Tk 122 w bt B st) :
    Calls Tryz.prog 53 #[.pointer (some ⟨bt, 0, none⟩), .int .i64 least, .int .i64 most] w fun e w' => e = .returned (.int .i64 (tNum least most st).1) ∧ Tk 122 w' bt B (tNum least most st).2 ∧ w.grownBy w' (some bt) ∧ ((tNum least most st).2.isSome = true → Sure w' bt) := by
  have hBw := h.1
  cases st with
  | none =>
    have HT := Lib.hid h
    obtain ⟨v, hO⟩ := h.none_form
    have g1 := hO.cell (j := 1) rfl
    have cM := Lib.hid (tmay_calls bt true w g1)
    clear h
    go_enter Tryz.func53, Tryz.ntmps53
    go_wp2_with fail
    refine cM.out.mono ?_
    rintro e W ⟨rfl, rfl⟩
    go_wp2
    go_ret
    exact ⟨rfl, HT.out, World.grownBy.refl _ _, fun h => by cases h⟩
  | some l =>
    obtain ⟨v, lo, hO, hb, hne⟩ := h.some_form
    have g1 := hO.cell (j := 1) rfl
    have g0 := hO.cell (j := 0) rfl
    have hlt := hO.lt
    have cM := Lib.hid (tmay_calls bt false w g1)
    have cF := Lib.hid (first_calls l v w (hb.wide (Nat.zero_le _) hBw))
    have HNE := Lib.hid hne
    have HB := Lib.hid hb
    clear h hne
    obtain ⟨A, c, rfl, hc1, hc2⟩ := hb.form
    unfold maxLen at hc2
    cases hf : firstC l with
    | none =>
      have HR := Lib.hid (show firstR l = (0, 0, 10) by unfold firstR; rw [hf])
      rw [tNum_bad hf]
      rw [HR.out] at cF
      clear hf hb
      go_enter Tryz.func53, Tryz.ntmps53
      go_wp2_with fail
      refine cM.out.mono ?_
      rintro e W ⟨rfl, rfl⟩
      go_wp2_with fail
      refine cF.out.mono ?_
      rintro e W1 ⟨rfl, hB⟩
      have hO1 := hO.same hB
      have g11 := hO1.cell (j := 1) rfl
      have f11 := hO1.frozen 1
      have cFa := Lib.hid (fault_calls bt _ W1 g11 f11)
      go_wp2_with fail
      refine cFa.out.mono ?_
      rintro e W2 ⟨rfl, rfl⟩
      go_wp2
      go_ret
      have hg := grownBy_set W1 bt 1 (.bool true)
      exact ⟨rfl, Tk.ofBad (hO1.set 1 (.bool true)) (Sl.below HB.out (hB.mono hBw)) (Nat.le_trans hBw hB.size) HNE.out hg, (only_of_below hB (some bt)).trans hg, fun h => by cases h⟩
    | some x =>
      obtain ⟨n, k⟩ := x
      have hfs := firstC_some hf
      have HR := Lib.hid (show firstR l = (n, (k : Int), 0) by unfold firstR; rw [hf])
      rw [HR.out] at cF
      by_cases hout : n < least ∨ most < n
      · rw [tNum_out hf hout]
        have hcs : decide (n < least) = true ∨ (decide (n < least) = false ∧ decide (n > most) = true) := by
          by_cases h1 : n < least
          · exact .inl (by simpa using h1)
          · exact .inr ⟨by simpa using h1, by simp; omega⟩
        clear hf hb hfs hout
        rcases hcs with hd | ⟨hd, hd2⟩
        all_goals
          go_enter Tryz.func53, Tryz.ntmps53
          go_wp2_with fail
          refine cM.out.mono ?_
          rintro e W ⟨rfl, rfl⟩
          go_wp2_with fail
          refine cF.out.mono ?_
          rintro e W1 ⟨rfl, hB⟩
          have hO1 := hO.same hB
          have g11 := hO1.cell (j := 1) rfl
          have f11 := hO1.frozen 1
          have cFa := Lib.hid (fault_calls bt _ W1 g11 f11)
          go_wp2_with fail
          refine cFa.out.mono ?_
          rintro e W2 ⟨rfl, rfl⟩
          go_wp2
          go_ret
          have hg := grownBy_set W1 bt 1 (.bool true)
          exact ⟨rfl, Tk.ofBad (hO1.set 1 (.bool true)) (Sl.below HB.out (hB.mono hBw)) (Nat.le_trans hBw hB.size) HNE.out hg, (only_of_below hB (some bt)).trans hg, fun h => by cases h⟩
      · have hd1 : decide (n < least) = false := by simp; omega
        have hd2 : decide (n > most) = false := by simp; omega
        rw [tNum_in hf hout]
        obtain ⟨b, o, rfl, -⟩ := hb.cellAt (j := 0) (by omega)
        have hk1 : k ≤ l.length := hfs.2.2.1
        have q1 : (0 : Int) ≤ (k : Int) := by omega
        have q2 : (k : Int) ≤ (l.length : Int) := by omega
        have q3 : (l.length : Int) ≤ (c : Int) := by omega
        have hslice := Lib.hid (fun W (hW : Below w.heap.size w W) => BytesAt.onFrom (k := k) (Sl.below HB.out (hW.mono hBw)) hk1)
        clear hf hb hfs hout
        by_cases hck : c = k
        · subst hck
          simp only [if_true] at hslice
          have hlc : l.length = c := by omega
          have e1 : l.length - c = 0 := by omega
          rw [e1, Nat.sub_self] at hslice
          clear e1 hlc
          go_enter Tryz.func53, Tryz.ntmps53
          go_wp2_with fail
          refine cM.out.mono ?_
          rintro e W ⟨rfl, rfl⟩
          go_wp2_with fail
          refine cF.out.mono ?_
          rintro e W1 ⟨rfl, hB⟩
          have hO1 := hO.same hB
          have g11 := hO1.cell (j := 1) rfl
          have g10 := hO1.cell (j := 0) rfl
          have f10 := hO1.frozen 0
          have hs1 := hslice.out W1 hB
          go_wp2
          go_ret
          have hg := grownBy_set W1 bt 0 (.slice (some ⟨b, o, none⟩) 0 0)
          exact ⟨rfl, Tk.ofOk (hO1.set 0 _) hs1 (Nat.le_trans hBw hB.size) HNE.out hg, (only_of_below hB (some bt)).trans hg, fun _ => ⟨_, _, _, _, (hO1.set 0 _).cell (j := 0) rfl⟩⟩
        · rw [if_neg hck] at hslice
          go_enter Tryz.func53, Tryz.ntmps53
          go_wp2_with fail
          refine cM.out.mono ?_
          rintro e W ⟨rfl, rfl⟩
          go_wp2_with fail
          refine cF.out.mono ?_
          rintro e W1 ⟨rfl, hB⟩
          have hO1 := hO.same hB
          have g11 := hO1.cell (j := 1) rfl
          have g10 := hO1.cell (j := 0) rfl
          have f10 := hO1.frozen 0
          have hs1 := hslice.out W1 hB
          go_wp2
          go_ret
          have hg := grownBy_set W1 bt 0 (.slice (some ⟨b, o + k, none⟩) (l.length - k) (c - k))
          exact ⟨rfl, Tk.ofOk (hO1.set 0 _) hs1 (Nat.le_trans hBw hB.size) HNE.out hg, (only_of_below hB (some bt)).trans hg, fun _ => ⟨_, _, _, _, (hO1.set 0 _).cell (j := 0) rfl⟩⟩
end Ce
end Go.Proofs.YthfpfomifebpbaaGreat

namespace Go.Proofs.YthfpfomifebpbaaGreat
open Go.RowKit
namespace Ce

set_option maxRecDepth 100000 in
set_option maxHeartbeats 2000000 in
theorem ttext_calls (most : Int) (bt B : Nat) (st : Tst) (w : World) (h : Tk 122 w bt B st) :
    Calls Tryz.prog 95 #[.pointer (some ⟨bt, 0, none⟩), .int .i64 most] w fun e w' => e = .returned (.string (bs (tText most st).1)) ∧ Tk 122 w' bt B (tText most st).2 ∧ w.grownBy w' (some bt) := by
  have cN := Lib.hid (tnum_calls 0 most bt B st w h)
  clear h
  cases hn : tNum 0 most st with
  | mk n st2 =>
    rw [hn] at cN
    cases st2 with
    | none =>
      rw [tText_bad (by rw [hn])]
      clear hn
      go_enter Tryz.func95, Tryz.ntmps95
      go_wp2_with fail
      refine cN.out.mono ?_
      rintro e W ⟨rfl, hT, hg, -⟩
      obtain ⟨v, hO⟩ := hT.none_form
      have HT := Lib.hid hT
      clear hT
      have g1 := hO.cell (j := 1) rfl
      have cM := Lib.hid (tmay_calls bt true W g1)
      go_wp2_with fail
      refine cM.out.mono ?_
      rintro e W1 ⟨rfl, rfl⟩
      go_wp2
      go_ret
      exact ⟨rfl, HT.out, hg⟩
    | some l =>
      have h0 : 0 ≤ n := by obtain ⟨_, _, _, h3, _⟩ := tNum_some hn; exact h3
      obtain ⟨m, rfl⟩ := Int.eq_ofNat_of_zero_le h0
      clear h0
      by_cases hlong : (l.length : Int) < (m : Int)
      · rw [tText_long hn hlong]
        have hd : decide (l.length < m) = true := by simpa using hlong
        clear hn hlong
        go_enter Tryz.func95, Tryz.ntmps95
        go_wp2_with fail
        refine cN.out.mono ?_
        rintro e W ⟨rfl, hT, hg, -⟩
        have hBw := hT.1
        obtain ⟨v, lo, hO, hb, hne⟩ := hT.some_form
        have HNE := Lib.hid hne
        have HB := Lib.hid hb
        obtain ⟨A, c, rfl, -⟩ := hb.form
        clear hT hne hb
        have g1 := hO.cell (j := 1) rfl
        have g0 := hO.cell (j := 0) rfl
        have f1 := hO.frozen 1
        have cM := Lib.hid (tmay_calls bt false W g1)
        have cFa := Lib.hid (fault_calls bt _ W g1 f1)
        go_wp2_with fail
        refine cM.out.mono ?_
        rintro e W1 ⟨rfl, rfl⟩
        go_wp2_with fail
        refine cFa.out.mono ?_
        rintro e W2 ⟨rfl, rfl⟩
        go_wp2
        go_ret
        have hg2 := grownBy_set W bt 1 (.bool true)
        exact ⟨rfl, Tk.ofBad (hO.set 1 (.bool true)) HB.out hBw HNE.out hg2, hg.trans hg2⟩
      · rw [tText_ok hn hlong]
        have hd : decide (l.length < m) = false := by simpa using hlong
        have hml : m ≤ l.length := by omega
        have q1 : (0 : Int) ≤ (m : Int) := by omega
        have q2 : (m : Int) ≤ (l.length : Int) := by omega
        clear hn hlong
        go_enter Tryz.func95, Tryz.ntmps95
        go_wp2_with fail
        refine cN.out.mono ?_
        rintro e W ⟨rfl, hT, hg, hS⟩
        obtain ⟨b, o, n', c, hS⟩ := hS rfl
        have hBw := hT.1
        obtain ⟨v, lo, hO, hb, hne⟩ := hT.some_form
        have g0 := hO.cell (j := 0) rfl
        obtain rfl : v = .slice (some ⟨b, o, none⟩) n' c := by rw [hS] at g0; simpa using g0.symm
        have HNE := Lib.hid hne
        have HB := Lib.hid hb
        obtain ⟨A, c', e, hc1, hc2⟩ := hb.form
        have e2 : c = c' := by cases e; rfl
        have e3 : n' = l.length := by cases e; rfl
        clear e
        subst e2 e3
        clear hT hne hb hS
        have q3 : (l.length : Int) ≤ (c : Int) := by omega
        have q4 : (m : Int) ≤ (c : Int) := by omega
        have g1 := hO.cell (j := 1) rfl
        have f0 := hO.frozen 0
        have cM := Lib.hid (tmay_calls bt false W g1)
        have hcv := run_string_at (P := Tryz.prog) (dst := 9) Tryz.underlying39 Tryz.underlying5 Tryz.underlying9 (BytesAt.upTo HB.out hml)
        have hs1 := BytesAt.onFrom HB.out hml
        have hon := hO.set 0 (.slice (if c = m then some ⟨b, o, none⟩ else some ⟨b, o + m, none⟩) (l.length - m) (c - m))
        by_cases hck : c = m
        · subst hck
          have e1 : l.length = c := by omega
          simp only [if_true] at hs1 hon
          have e2 : l.length - c = 0 := by omega
          rw [e2, Nat.sub_self] at hs1 hon
          clear e1 e2
          have HS1 := Lib.hid hs1
          clear hs1
          go_wp2_with fail
          refine cM.out.mono ?_
          rintro e W1 ⟨rfl, rfl⟩
          go_wp2
          go_ret
          have hg2 := grownBy_set W bt 0 (.slice (some ⟨b, o, none⟩) 0 0)
          exact ⟨rfl, Tk.ofOk hon HS1.out hBw HNE.out hg2, hg.trans hg2⟩
        · rw [if_neg hck] at hs1 hon
          have HS1 := Lib.hid hs1
          clear hs1
          go_wp2_with fail
          refine cM.out.mono ?_
          rintro e W1 ⟨rfl, rfl⟩
          go_wp2
          go_ret
          have hg2 := grownBy_set W bt 0 (.slice (some ⟨b, o + m, none⟩) (l.length - m) (c - m))
          exact ⟨rfl, Tk.ofOk hon HS1.out hBw HNE.out hg2, hg.trans hg2⟩

def leftOf : Tst → Int | none => 0 | some l => l.length
/-- all was taken, or not -/
def doneOf : Tst → Int | some [] => 0 | _ => 10
theorem tdone_calls (bt B : Nat) (st : Tst) (w : World) (h : Tk 122 w bt B st) :
    Calls Tryz.prog 56 #[.pointer (some ⟨bt, 0, none⟩)] w fun e w' => e = .returned (.int .i64 (doneOf st)) ∧ w = w' := by
  cases st with
  | none =>
    obtain ⟨v, hO⟩ := h.none_form
    have g1 := hO.cell (j := 1) rfl
    clear h
    go_enter Tryz.func56, Tryz.ntmps56
    go_wp2
    go_ret
    exact ⟨rfl, rfl⟩
  | some l =>
    obtain ⟨v, lo, hO, hb, hne⟩ := h.some_form
    obtain ⟨A, c, rfl, -⟩ := hb.form
    have g1 := hO.cell (j := 1) rfl
    have g0 := hO.cell (j := 0) rfl
    clear h hne hb
    cases l with
    | nil =>
      simp only [List.length_nil] at g0 g1
      go_enter Tryz.func56, Tryz.ntmps56
      go_wp2
      go_ret
      exact ⟨rfl, rfl⟩
    | cons x r =>
      have hd : decide (0 < (x :: r).length) = true := by simp
      generalize hk : (x :: r).length = k at *
      go_enter Tryz.func56, Tryz.ntmps56
      go_wp2
      go_ret
      exact ⟨rfl, rfl⟩
end Ce
end Go.Proofs.YthfpfomifebpbaaGreat

namespace Go.Proofs.YthfpfomifebpbaaGreat
open Go.RowKit
namespace Ce

def refR (b : List UInt8) : Int × Int := match firstC b with | some (n, k) => (n, (k : Int)) | none => (0, 0)
/-- the number of some bytes -/
def refV (neg : Bool) (u : Nat) : Int := if neg then -1 - u else u
theorem cons_byte {a b : Nat} {x y : List UInt8} {h : UInt8} (ha : a < 256) (hb : h.toNat = b) (hne : a ≠ b) : UInt8.ofNat a :: x ≠ h :: y := by
  intro e
  injection e with e _
  have := congrArg UInt8.toNat e
  rw [toNat_ofNat ha] at this
  omega
/-- heads that are none -/
theorem refR_head {h : UInt8} {t : List UInt8} (h1 : ¬ h.toNat < 128) (h2 : ¬ (129 ≤ h.toNat ∧ h.toNat ≤ 136)) (h3 : ¬ (144 ≤ h.toNat ∧ h.toNat ≤ 152)) : refR (h :: t) = (0, 0) := by
  unfold refR
  rw [firstC_cons, if_neg h1]
  by_cases hz : 8 < sizeOf_ h ∨ t.length < sizeOf_ h
  · rw [if_pos hz]
  · rw [if_neg hz, if_neg]
    have e : h.toNat = 128 := by
      unfold sizeOf_ at hz
      split at hz <;> omega
    have hs : sizeOf_ h = 0 := by unfold sizeOf_; rw [if_neg (by omega)]; omega
    have hv : valOf h (t.take (sizeOf_ h)) = 0 := by
      unfold valOf
      rw [if_neg (by omega), hs]
      rfl
    rw [hv, show numC 0 = [UInt8.ofNat 0] from rfl]
    exact cons_byte (by omega) e (by omega)
theorem refR_small {h : UInt8} {t : List UInt8} (h1 : h.toNat < 128) : refR (h :: t) = ((h.toNat : Int), 1) := by
  unfold refR; rw [firstC_cons, if_pos h1]; rfl
theorem refR_short {h : UInt8} {t : List UInt8} {z : Nat} (h1 : ¬ h.toNat < 128) (hz : sizeOf_ h = z) (h2 : t.length < z) : refR (h :: t) = (0, 0) := by
  unfold refR; rw [firstC_cons, if_neg h1, hz, if_pos (.inr h2)]
/-- heads of numbers -/
theorem refR_num {h : UInt8} {t : List UInt8} {z : Nat} {neg : Bool} (h1 : ¬ h.toNat < 128) (hz : sizeOf_ h = z) (h8 : z ≤ 8) (h2 : z ≤ t.length) (hn : decide (144 ≤ h.toNat) = neg) :
    refR (h :: t) = if be (t.take z) < 9223372036854775808 then (if numC (refV neg (be (t.take z))) = h :: t.take z then (refV neg (be (t.take z)), ((1 + z : Nat) : Int)) else (0, 0)) else (0, 0) := by
  have hb := be_take_lt t h8
  unfold refR
  rw [firstC_cons, if_neg h1, hz, if_neg (by omega)]
  have hv : valOf h (t.take z) = toI (if neg = true then flip (be (t.take z)) else be (t.take z)) := by
    unfold valOf
    subst hn
    by_cases h4 : 144 ≤ h.toNat
    · rw [if_pos h4, decide_eq_true h4, if_pos rfl]
    · rw [if_neg h4, decide_eq_false h4, if_neg (by simp)]
  rw [hv]
  generalize be (t.take z) = u at *
  by_cases hu : u < 9223372036854775808
  · rw [if_pos hu]
    have e : toI (if neg = true then flip u else u) = refV neg u := by
      unfold toI refV flip
      cases neg
      · simp; omega
      · simp; omega
    rw [e]
    by_cases hq : numC (refV neg u) = h :: t.take z
    · rw [if_pos hq, if_pos hq]
    · rw [if_neg hq, if_neg hq]
  · rw [if_neg hu, if_neg]
    clear hz
    cases neg with
    | false =>
      have e : toI (if false = true then flip u else u) = (u : Int) - 18446744073709551616 := by unfold toI; simp; omega
      rw [e, numC_neg (by omega)]
      have h4 : ¬ 144 ≤ h.toNat := of_decide_eq_false hn
      have := dig_len8 (-1 - ((u : Int) - 18446744073709551616)).toNat
      exact cons_byte (by omega) rfl (by omega)
    | true =>
      have e : toI (if true = true then flip u else u) = (18446744073709551615 - u : Int) := by unfold toI flip; simp; omega
      rw [e]
      have h4 : 144 ≤ h.toNat := of_decide_eq_true hn
      by_cases hs : (18446744073709551615 - u : Int) < 128
      · rw [numC_small ⟨by omega, hs⟩]
        exact cons_byte (by omega) rfl (by omega)
      · rw [numC_big (by omega)]
        have hd := dig_len8 (18446744073709551615 - u : Int).toNat
        exact cons_byte (by omega) rfl (by omega)

set_option maxRecDepth 100000 in
set_option maxHeartbeats 8000000 in
theorem reffirst_calls (b : List UInt8) (v : Value) (w : World) (hI : BytesAt w 0 w.heap.size v b) :
    Calls Tryz.prog 100 #[v] w fun e w' => e = .returned (.tuple #[.int .i64 (refR b).1, .int .i64 (refR b).2]) ∧ Below w.heap.size w w' := by
  obtain ⟨A, c, rfl, hc1, hc2⟩ := hI.form
  unfold maxLen at hc2
  match b with
  | [] =>
    have hR : refR [] = (0, 0) := rfl
    rw [hR]
    clear hR
    simp only [List.length_nil]
    go_enter Tryz.func100, Tryz.ntmps100
    go_wp2
    go_ret2
    exact ⟨rfl, Below.refl _ _⟩
  | h :: t =>
    have hlen : (h :: t).length = t.length + 1 := by simp
    obtain ⟨p, o, rfl, -, hp, g0⟩ := hI.cellAt (j := 0) (by simp)
    have hg : ∀ j (hj : j < t.length), w.cell? ⟨p, o + (1 + j), none⟩ = some (.int .u8 ((t[j]).toNat : Int)) := fun j hj => by
      obtain ⟨p', o', e, -, -, g1⟩ := hI.cellAt (j := j + 1) (by simp; omega)
      cases e
      rw [List.getElem_cons_succ] at g1
      rw [← g1]
      congr 2
      omega
    have HG := Lib.hid hg
    clear hg
    simp only [List.getElem_cons_zero, Nat.add_zero] at g0
    rw [hlen] at hI hc1 ⊢
    clear hlen
    have hlz : (((t.length + 1 : Nat) : Int) == 0) = false := by simp; omega
    have hl1 : 0 < t.length + 1 := by omega
    have hh := h.toNat_lt
    by_cases h1 : h.toNat < 128
    · have HR := Lib.hid (refR_small (t := t) h1)
      have hd : decide ((h.toNat : Int) < 128) = true := by simp; omega
      clear h1
      go_enter Tryz.func100, Tryz.ntmps100
      go_wp2
      go_ret2
      rw [HR.out]
      exact ⟨rfl, Below.refl _ _⟩
    · have hd : decide ((h.toNat : Int) < 128) = false := by simp; omega
      by_cases h2 : 129 ≤ h.toNat ∧ h.toNat ≤ 136
      · obtain ⟨h2, h3⟩ := h2
        have hd2 : decide ((h.toNat : Int) ≥ 129) = true := by simp; omega
        have hd3 : decide ((h.toNat : Int) ≤ 136) = true := by simp; omega
        obtain ⟨sz, hsz⟩ : ∃ sz : Nat, (h.toNat : Int) - 128 = (sz : Int) := ⟨h.toNat - 128, by omega⟩
        have hS : sizeOf_ h = sz := by unfold sizeOf_; rw [if_neg (by omega)]; omega
        have hN : decide (144 ≤ h.toNat) = false := by simp; omega
        have h8 : sz ≤ 8 := by omega
        clear h2 h3
        by_cases hshort : t.length < sz
        · have HR := Lib.hid (refR_short h1 hS hshort)
          have hds : decide (t.length + 1 < 1 + sz) = true := by simp; omega
          have hds2 : decide (((t.length + 1 : Nat) : Int) < 1 + (sz : Int)) = true := by simp; omega
          have hds3 : decide ((t.length : Int) + 1 < 1 + (sz : Int)) = true := by simp; omega
          clear hshort h1 hS hN
          go_enter Tryz.func100, Tryz.ntmps100
          go_wp2
          go_ret2
          rw [HR.out]
          exact ⟨rfl, Below.refl _ _⟩
        · have hst : sz ≤ t.length := by omega
          have HR := Lib.hid (refR_num h1 hS h8 hst hN)
          have hds : decide (t.length + 1 < 1 + sz) = false := by simp; omega
          have hds2 : decide (((t.length + 1 : Nat) : Int) < 1 + (sz : Int)) = false := by simp; omega
          have hds3 : decide ((t.length : Int) + 1 < 1 + (sz : Int)) = false := by simp; omega
          clear hshort h1 hS hN
          go_enter Tryz.func100, Tryz.ntmps100
          go_wp2
          go_loop [6, 7] (fun u i => ∃ j : Nat, j ≤ sz ∧ i = .int .i64 j ∧ u = .int .u64 (be (t.take j))) (fun _ i => sz - (intOf i).toNat)
          case atStart => exact ⟨0, by omega, rfl, rfl⟩
          case round =>
            obtain ⟨j, hj, rfl, rfl⟩ := hrel
            by_cases hjs : j < sz
            · have hcell := HG.out j (by omega)
              have hbl := be_lt _ (t.take j) rfl
              have hlj : (t.take j).length = j := by rw [List.length_take]; omega
              rw [hlj] at hbl
              have hpow : 256 ^ j ≤ 256 ^ 7 := Nat.pow_le_pow_right (by omega) (by omega)
              have hub : be (t.take j) < 72057594037927936 := Nat.lt_of_lt_of_le hbl hpow
              clear hpow hbl hlj
              have hqq : (t[j]).toNat < 256 := (t[j]).toNat_lt
              have hdj : decide (j < sz) = true := by simpa using hjs
              have HS := Lib.hid (show be (t.take (j + 1)) = be (t.take j) * 256 + (t[j]).toNat by rw [List.take_succ_eq_append_getElem (by omega), be_snoc])
              generalize be (t.take j) = u at *
              generalize (t[j]).toNat = q at *
              have hu0 : (0 : Int) ≤ (u : Int) := by omega
              have hu1 : (u : Int) < 72057594037927936 := by omega
              clear hub
              have hq0 : (0 : Int) ≤ (q : Int) := by omega
              have hq1 : (q : Int) < 256 := by omega
              have k1 : (0 : Int) ≤ 1 + (j : Int) := by omega
              have k2 : 1 + (j : Int) < ((t.length + 1 : Nat) : Int) := by omega
              go_wp2
              go_round
              case rel => exact ⟨j + 1, by omega, by go_num, by rw [HS.out, Int.natCast_add, Int.natCast_mul]; rfl⟩
              case measure => simp [intOf]; omega
            · obtain rfl : j = sz := by omega
              have hub := be_take_lt t h8
              have hdj : decide (j < j) = false := by simp
              clear HG
              have hpre := fun (W : World) (hW : Below w.heap.size w W) => (hI.mono hW hW.size).upTo (k := 1 + j) (by simp; omega)
              have htk : (h :: t).take (1 + j) = h :: t.take j := by rw [Nat.add_comm, List.take_succ_cons]
              rw [htk] at hpre
              have HPRE := Lib.hid hpre
              clear hpre htk
              by_cases hbigu : be (t.take j) < 9223372036854775808
              · have HR2 := Lib.hid (HR.out.trans (if_pos hbigu))
                have hd9 : decide (9223372036854775808 ≤ be (t.take j)) = false := by simp; omega
                have hd10 : decide (((be (t.take j) : Nat) : Int) ≥ 9223372036854775808) = false := by simp; omega
                generalize be (t.take j) = U at *
                have hw64 : wrap64 (U : Int) = (U : Int) := by unfold wrap64; omega
                have hN : -9223372036854775808 ≤ refV false U ∧ refV false U ≤ 9223372036854775807 := by unfold refV; simp; omega
                have HV := Lib.hid (show refV false U = (U : Int) by unfold refV; simp)
                have cN := Lib.hid (fun W => refnum_calls (refV false U) W hN.1 hN.2)
                rw [HV.out] at cN
                have hv0 : -9223372036854775808 ≤ (-1 - (U : Int)) := by omega
                have hv1 : (-1 - (U : Int)) ≤ 9223372036854775807 := by omega
                go_wp2_with fail
                refine (cN.out _).mono ?_
                rintro e W1 ⟨⟨v1, rfl, hv1⟩, hb1⟩
                obtain ⟨A1, c1, rfl, -⟩ := hv1.form
                have hB1 := hb1
                obtain ⟨m, hm⟩ : ∃ m : Nat, m = 1 + j := ⟨_, rfl⟩
                have hsum : IntKind.i64.wrap (1 + (j : Int)) = (m : Int) := (IntWalk.i64_in _ (by omega)).trans (by omega)
                have k3 : (0 : Int) ≤ (m : Int) := by omega
                have k4 : (m : Int) ≤ (c : Int) := by omega
                have HM1 := Lib.hid hm
                rw [← hm] at HPRE
                clear hm
                have hcA := run_string_at (dst := 9) Tryz.underlying39 Tryz.underlying5 Tryz.underlying9 (Sl.below hv1 ((Below.refl _ W1).drew))
                have hcB := run_string_at (dst := 9) Tryz.underlying39 Tryz.underlying5 Tryz.underlying9 (HPRE.out _ (hB1.drew))
                by_cases hq : numC (U : Int) = h :: t.take j
                · have HR3 := Lib.hid (show refR (h :: t) = ((U : Int), ((1 + j : Nat) : Int)) by rw [HR2.out, HV.out, if_pos hq])
                  have hlq : (numC (U : Int)).length = j + 1 := by rw [hq, List.length_cons, List.length_take]; omega
                  rw [hlq] at hcA hv1 ⊢
                  rw [hq] at hcA
                  clear hq
                  go_wp2_with fail
                  go_region_with fail
                  all_goals
                    clear hsum
                    go_wp2
                    go_ret2
                    rw [HR3.out]
                    exact ⟨rfl, hB1.drew⟩
                · have HR3 := Lib.hid (show refR (h :: t) = (0, 0) by rw [HR2.out, HV.out, if_neg hq])
                  obtain ⟨s1, hs1⟩ : ∃ s1 : ByteArray, s1 = ⟨(numC (U : Int)).toArray⟩ := ⟨_, rfl⟩
                  obtain ⟨s2, hs2⟩ : ∃ s2 : ByteArray, s2 = ⟨(h :: t.take j).toArray⟩ := ⟨_, rfl⟩
                  have hne : ¬ s1.toList = s2.toList := by
                    rw [ByteArray.toList_eq, ByteArray.toList_eq, hs1, hs2]
                    exact hq
                  have hnb : (s1.toList == s2.toList) = false := by simpa using hne
                  rw [← hs1] at hcA
                  rw [← hs2] at hcB
                  clear hs1 hs2 hq
                  go_wp2_with fail
                  go_region_with fail
                  all_goals
                    clear hsum
                    go_wp2
                    go_ret2
                    rw [HR3.out]
                    exact ⟨rfl, hB1.drew⟩
              · have HR2 := Lib.hid (HR.out.trans (if_neg hbigu))
                have hd9 : decide (9223372036854775808 ≤ be (t.take j)) = true := by simp; omega
                have hd10 : decide (((be (t.take j) : Nat) : Int) ≥ 9223372036854775808) = true := by simp; omega
                generalize be (t.take j) = U at *
                go_wp2
                go_ret2
                rw [HR2.out]
                exact ⟨rfl, Below.refl _ _⟩
      · by_cases h3 : 144 ≤ h.toNat ∧ h.toNat ≤ 152
        · obtain ⟨h3, h4⟩ := h3
          have hd2 : decide ((h.toNat : Int) ≥ 129) = true := by simp; omega
          have hd3 : decide ((h.toNat : Int) ≤ 136) = false := by simp; omega
          have hd4 : decide ((h.toNat : Int) ≥ 144) = true := by simp; omega
          have hd5 : decide ((h.toNat : Int) ≤ 152) = true := by simp; omega
          obtain ⟨sz, hsz⟩ : ∃ sz : Nat, (h.toNat : Int) - 144 = (sz : Int) := ⟨h.toNat - 144, by omega⟩
          have hS : sizeOf_ h = sz := by unfold sizeOf_; rw [if_pos (by omega)]; omega
          have hN : decide (144 ≤ h.toNat) = true := by simp; omega
          have h8 : sz ≤ 8 := by omega
          clear h2 h3
          by_cases hshort : t.length < sz
          · have HR := Lib.hid (refR_short h1 hS hshort)
            have hds : decide (t.length + 1 < 1 + sz) = true := by simp; omega
            have hds2 : decide (((t.length + 1 : Nat) : Int) < 1 + (sz : Int)) = true := by simp; omega
            have hds3 : decide ((t.length : Int) + 1 < 1 + (sz : Int)) = true := by simp; omega
            clear hshort h1 hS hN
            go_enter Tryz.func100, Tryz.ntmps100
            go_wp2
            go_ret2
            rw [HR.out]
            exact ⟨rfl, Below.refl _ _⟩
          · have hst : sz ≤ t.length := by omega
            have HR := Lib.hid (refR_num h1 hS h8 hst hN)
            have hds : decide (t.length + 1 < 1 + sz) = false := by simp; omega
            have hds2 : decide (((t.length + 1 : Nat) : Int) < 1 + (sz : Int)) = false := by simp; omega
            have hds3 : decide ((t.length : Int) + 1 < 1 + (sz : Int)) = false := by simp; omega
            clear hshort h1 hS hN
            go_enter Tryz.func100, Tryz.ntmps100
            go_wp2
            go_loop [6, 7] (fun u i => ∃ j : Nat, j ≤ sz ∧ i = .int .i64 j ∧ u = .int .u64 (be (t.take j))) (fun _ i => sz - (intOf i).toNat)
            case atStart => exact ⟨0, by omega, rfl, rfl⟩
            case round =>
              obtain ⟨j, hj, rfl, rfl⟩ := hrel
              by_cases hjs : j < sz
              · have hcell := HG.out j (by omega)
                have hbl := be_lt _ (t.take j) rfl
                have hlj : (t.take j).length = j := by rw [List.length_take]; omega
                rw [hlj] at hbl
                have hpow : 256 ^ j ≤ 256 ^ 7 := Nat.pow_le_pow_right (by omega) (by omega)
                have hub : be (t.take j) < 72057594037927936 := Nat.lt_of_lt_of_le hbl hpow
                clear hpow hbl hlj
                have hqq : (t[j]).toNat < 256 := (t[j]).toNat_lt
                have hdj : decide (j < sz) = true := by simpa using hjs
                have HS := Lib.hid (show be (t.take (j + 1)) = be (t.take j) * 256 + (t[j]).toNat by rw [List.take_succ_eq_append_getElem (by omega), be_snoc])
                generalize be (t.take j) = u at *
                generalize (t[j]).toNat = q at *
                have hu0 : (0 : Int) ≤ (u : Int) := by omega
                have hu1 : (u : Int) < 72057594037927936 := by omega
                clear hub
                have hq0 : (0 : Int) ≤ (q : Int) := by omega
                have hq1 : (q : Int) < 256 := by omega
                have k1 : (0 : Int) ≤ 1 + (j : Int) := by omega
                have k2 : 1 + (j : Int) < ((t.length + 1 : Nat) : Int) := by omega
                go_wp2
                go_round
                case rel => exact ⟨j + 1, by omega, by go_num, by rw [HS.out, Int.natCast_add, Int.natCast_mul]; rfl⟩
                case measure => simp [intOf]; omega
              · obtain rfl : j = sz := by omega
                have hub := be_take_lt t h8
                have hdj : decide (j < j) = false := by simp
                clear HG
                have hpre := fun (W : World) (hW : Below w.heap.size w W) => (hI.mono hW hW.size).upTo (k := 1 + j) (by simp; omega)
                have htk : (h :: t).take (1 + j) = h :: t.take j := by rw [Nat.add_comm, List.take_succ_cons]
                rw [htk] at hpre
                have HPRE := Lib.hid hpre
                clear hpre htk
                by_cases hbigu : be (t.take j) < 9223372036854775808
                · have HR2 := Lib.hid (HR.out.trans (if_pos hbigu))
                  have hd9 : decide (9223372036854775808 ≤ be (t.take j)) = false := by simp; omega
                  have hd10 : decide (((be (t.take j) : Nat) : Int) ≥ 9223372036854775808) = false := by simp; omega
                  generalize be (t.take j) = U at *
                  have hw64 : wrap64 (U : Int) = (U : Int) := by unfold wrap64; omega
                  have hN : -9223372036854775808 ≤ refV true U ∧ refV true U ≤ 9223372036854775807 := by unfold refV; simp; omega
                  have HV := Lib.hid (show refV true U = (-1 - (U : Int)) by unfold refV; simp)
                  have cN := Lib.hid (fun W => refnum_calls (refV true U) W hN.1 hN.2)
                  rw [HV.out] at cN
                  have hv0 : -9223372036854775808 ≤ (-1 - (U : Int)) := by omega
                  have hv1 : (-1 - (U : Int)) ≤ 9223372036854775807 := by omega
                  go_wp2_with fail
                  refine (cN.out _).mono ?_
                  rintro e W1 ⟨⟨v1, rfl, hv1⟩, hb1⟩
                  obtain ⟨A1, c1, rfl, -⟩ := hv1.form
                  have hB1 := hb1
                  obtain ⟨m, hm⟩ : ∃ m : Nat, m = 1 + j := ⟨_, rfl⟩
                  have hsum : IntKind.i64.wrap (1 + (j : Int)) = (m : Int) := (IntWalk.i64_in _ (by omega)).trans (by omega)
                  have k3 : (0 : Int) ≤ (m : Int) := by omega
                  have k4 : (m : Int) ≤ (c : Int) := by omega
                  have HM1 := Lib.hid hm
                  rw [← hm] at HPRE
                  clear hm
                  have hcA := run_string_at (dst := 9) Tryz.underlying39 Tryz.underlying5 Tryz.underlying9 (Sl.below hv1 ((Below.refl _ W1).drew))
                  have hcB := run_string_at (dst := 9) Tryz.underlying39 Tryz.underlying5 Tryz.underlying9 (HPRE.out _ (hB1.drew))
                  by_cases hq : numC (-1 - (U : Int)) = h :: t.take j
                  · have HR3 := Lib.hid (show refR (h :: t) = ((-1 - (U : Int)), ((1 + j : Nat) : Int)) by rw [HR2.out, HV.out, if_pos hq])
                    have hlq : (numC (-1 - (U : Int))).length = j + 1 := by rw [hq, List.length_cons, List.length_take]; omega
                    rw [hlq] at hcA hv1 ⊢
                    rw [hq] at hcA
                    clear hq
                    go_wp2_with fail
                    go_region_with fail
                    all_goals
                      clear hsum
                      go_wp2
                      go_ret2
                      rw [HR3.out]
                      exact ⟨rfl, hB1.drew⟩
                  · have HR3 := Lib.hid (show refR (h :: t) = (0, 0) by rw [HR2.out, HV.out, if_neg hq])
                    obtain ⟨s1, hs1⟩ : ∃ s1 : ByteArray, s1 = ⟨(numC (-1 - (U : Int))).toArray⟩ := ⟨_, rfl⟩
                    obtain ⟨s2, hs2⟩ : ∃ s2 : ByteArray, s2 = ⟨(h :: t.take j).toArray⟩ := ⟨_, rfl⟩
                    have hne : ¬ s1.toList = s2.toList := by
                      rw [ByteArray.toList_eq, ByteArray.toList_eq, hs1, hs2]
                      exact hq
                    have hnb : (s1.toList == s2.toList) = false := by simpa using hne
                    rw [← hs1] at hcA
                    rw [← hs2] at hcB
                    clear hs1 hs2 hq
                    go_wp2_with fail
                    go_region_with fail
                    all_goals
                      clear hsum
                      go_wp2
                      go_ret2
                      rw [HR3.out]
                      exact ⟨rfl, hB1.drew⟩
                · have HR2 := Lib.hid (HR.out.trans (if_neg hbigu))
                  have hd9 : decide (9223372036854775808 ≤ be (t.take j)) = true := by simp; omega
                  have hd10 : decide (((be (t.take j) : Nat) : Int) ≥ 9223372036854775808) = true := by simp; omega
                  generalize be (t.take j) = U at *
                  go_wp2
                  go_ret2
                  rw [HR2.out]
                  exact ⟨rfl, Below.refl _ _⟩
        · have HR := Lib.hid (refR_head (t := t) h1 h2 h3)
          have hcs : (decide ((h.toNat : Int) ≥ 129) = false ∧ decide ((h.toNat : Int) ≥ 144) = false) ∨ (decide ((h.toNat : Int) ≥ 129) = true ∧ decide ((h.toNat : Int) ≤ 136) = false ∧ ((decide ((h.toNat : Int) ≥ 144) = true ∧ decide ((h.toNat : Int) ≤ 152) = false) ∨ decide ((h.toNat : Int) ≥ 144) = false)) := by
            simp only [decide_eq_true_eq, decide_eq_false_iff_not]
            omega
          clear h1 h2 h3
          rcases hcs with ⟨e1, e2⟩ | ⟨e1, e2, ⟨e3, e4⟩ | e3⟩
          all_goals
            go_enter Tryz.func100, Tryz.ntmps100
            go_wp2
            go_ret2
            rw [HR.out]
            exact ⟨rfl, Below.refl _ _⟩
end Ce
end Go.Proofs.YthfpfomifebpbaaGreat

namespace Go.Proofs.YthfpfomifebpbaaGreat
open Go.RowKit
namespace Ce

set_option maxRecDepth 100000 in
set_option maxHeartbeats 2000000 in
theorem rnum_calls (least most : Int) (bt B : Nat) (st : Tst) (w : World) (h : Tk 94 w bt B st) :
    Calls Tryz.prog 60 #[.pointer (some ⟨bt, 0, none⟩), .int .i64 least, .int .i64 most] w fun e w' => e = .returned (.int .i64 (tNum least most st).1) ∧ Tk 94 w' bt B (tNum least most st).2 ∧ w.grownBy w' (some bt) ∧ ((tNum least most st).2.isSome = true → Sure w' bt) := by
  have hBw := h.1
  cases st with
  | none =>
    have HT := Lib.hid h
    obtain ⟨v, hO⟩ := h.none_form
    have g1 := hO.cell (j := 1) rfl
    clear h
    go_enter Tryz.func60, Tryz.ntmps60
    go_wp2
    go_ret
    exact ⟨rfl, HT.out, World.grownBy.refl _ _, fun h => by cases h⟩
  | some l =>
    obtain ⟨v, lo, hO, hb, hne⟩ := h.some_form
    have g1 := hO.cell (j := 1) rfl
    have g0 := hO.cell (j := 0) rfl
    have hlt := hO.lt
    have cF := Lib.hid (reffirst_calls l v w (hb.wide (Nat.zero_le _) hBw))
    have HNE := Lib.hid hne
    have HB := Lib.hid hb
    clear h hne
    obtain ⟨A, c, rfl, hc1, hc2⟩ := hb.form
    unfold maxLen at hc2
    cases hf : firstC l with
    | none =>
      have HR := Lib.hid (show refR l = (0, 0) by unfold refR; rw [hf])
      rw [tNum_bad hf]
      rw [HR.out] at cF
      clear hf hb
      go_enter Tryz.func60, Tryz.ntmps60
      go_wp2_with fail
      refine cF.out.mono ?_
      rintro e W1 ⟨rfl, hB⟩
      have hO1 := hO.same hB
      have g11 := hO1.cell (j := 1) rfl
      have f11 := hO1.frozen 1
      go_wp2
      go_ret
      have hg := grownBy_set W1 bt 1 (.bool true)
      exact ⟨rfl, Tk.ofBad (hO1.set 1 (.bool true)) (Sl.below HB.out (hB.mono hBw)) (Nat.le_trans hBw hB.size) HNE.out hg, (only_of_below hB (some bt)).trans hg, fun h => by cases h⟩
    | some x =>
      obtain ⟨n, k⟩ := x
      have hfs := firstC_some hf
      have HR := Lib.hid (show refR l = (n, (k : Int)) by unfold refR; rw [hf])
      rw [HR.out] at cF
      have hk0 : ((k : Int) == 0) = false := by simp; omega
      by_cases hout : n < least ∨ most < n
      · rw [tNum_out hf hout]
        have hcs : decide (n < least) = true ∨ (decide (n < least) = false ∧ decide (n > most) = true) := by
          by_cases h1 : n < least
          · exact .inl (by simpa using h1)
          · exact .inr ⟨by simpa using h1, by simp; omega⟩
        clear hf hb hfs hout
        rcases hcs with hd | ⟨hd, hd2⟩
        all_goals
          go_enter Tryz.func60, Tryz.ntmps60
          go_wp2_with fail
          refine cF.out.mono ?_
          rintro e W1 ⟨rfl, hB⟩
          have hO1 := hO.same hB
          have g11 := hO1.cell (j := 1) rfl
          have f11 := hO1.frozen 1
          go_wp2
          go_ret
          have hg := grownBy_set W1 bt 1 (.bool true)
          exact ⟨rfl, Tk.ofBad (hO1.set 1 (.bool true)) (Sl.below HB.out (hB.mono hBw)) (Nat.le_trans hBw hB.size) HNE.out hg, (only_of_below hB (some bt)).trans hg, fun h => by cases h⟩
      · have hd1 : decide (n < least) = false := by simp; omega
        have hd2 : decide (n > most) = false := by simp; omega
        rw [tNum_in hf hout]
        obtain ⟨b, o, rfl, -⟩ := hb.cellAt (j := 0) (by omega)
        have hk1 : k ≤ l.length := hfs.2.2.1
        have q1 : (0 : Int) ≤ (k : Int) := by omega
        have q2 : (k : Int) ≤ (l.length : Int) := by omega
        have q3 : (l.length : Int) ≤ (c : Int) := by omega
        have hslice := Lib.hid (fun W (hW : Below w.heap.size w W) => BytesAt.onFrom (k := k) (Sl.below HB.out (hW.mono hBw)) hk1)
        clear hf hb hfs hout
        by_cases hck : c = k
        · subst hck
          simp only [if_true] at hslice
          have hlc : l.length = c := by omega
          have e1 : l.length - c = 0 := by omega
          rw [e1, Nat.sub_self] at hslice
          clear e1 hlc
          go_enter Tryz.func60, Tryz.ntmps60
          go_wp2_with fail
          refine cF.out.mono ?_
          rintro e W1 ⟨rfl, hB⟩
          have hO1 := hO.same hB
          have g11 := hO1.cell (j := 1) rfl
          have g10 := hO1.cell (j := 0) rfl
          have f10 := hO1.frozen 0
          have hs1 := hslice.out W1 hB
          go_wp2
          go_ret
          have hg := grownBy_set W1 bt 0 (.slice (some ⟨b, o, none⟩) 0 0)
          exact ⟨rfl, Tk.ofOk (hO1.set 0 _) hs1 (Nat.le_trans hBw hB.size) HNE.out hg, (only_of_below hB (some bt)).trans hg, fun _ => ⟨_, _, _, _, (hO1.set 0 _).cell (j := 0) rfl⟩⟩
        · rw [if_neg hck] at hslice
          go_enter Tryz.func60, Tryz.ntmps60
          go_wp2_with fail
          refine cF.out.mono ?_
          rintro e W1 ⟨rfl, hB⟩
          have hO1 := hO.same hB
          have g11 := hO1.cell (j := 1) rfl
          have g10 := hO1.cell (j := 0) rfl
          have f10 := hO1.frozen 0
          have hs1 := hslice.out W1 hB
          go_wp2
          go_ret
          have hg := grownBy_set W1 bt 0 (.slice (some ⟨b, o + k, none⟩) (l.length - k) (c - k))
          exact ⟨rfl, Tk.ofOk (hO1.set 0 _) hs1 (Nat.le_trans hBw hB.size) HNE.out hg, (only_of_below hB (some bt)).trans hg, fun _ => ⟨_, _, _, _, (hO1.set 0 _).cell (j := 0) rfl⟩⟩

/-- behind the document's Num: the text -/
def rTextOf (m : Int × Tst) : List UInt8 × Tst := match m with
  | (n, some r) => if (r.length : Int) < n then ([], none) else (r.take n.toNat, some (r.drop n.toNat))
  | (_, none) => ([], none)

set_option maxRecDepth 100000 in
set_option maxHeartbeats 4000000 in
theorem rtext_calls (most : Int) (bt B : Nat) (st : Tst) (w : World) (h : Tk 94 w bt B st) (hmost : 0 ≤ most) :
    Calls Tryz.prog 101 #[.pointer (some ⟨bt, 0, none⟩), .int .i64 most] w fun e w' => e = .returned (.string (bs (tText most st).1)) ∧ Tk 94 w' bt B (tText most st).2 ∧ w.grownBy w' (some bt) := by
  obtain ⟨hBw, v, l, lo, bad, hO, hb, hne, hst⟩ := id h
  obtain ⟨A, c, rfl, -⟩ := hb.form
  have g0 := hO.cell (j := 0) rfl
  obtain ⟨mm, hmm⟩ : ∃ mm : Int, mm = if most > (l.length : Int) then (l.length : Int) else most := ⟨_, rfl⟩
  have cN := Lib.hid (rnum_calls 0 mm bt B st w h)
  have hTT : tText most st = rTextOf (tNum 0 mm st) := by
    subst hst
    cases bad with
    | true => rfl
    | false =>
      rw [hmm]
      exact (tText_min hmost).symm
  rw [hTT]
  clear hTT h hb hne hst
  have hcs : (decide (most > (l.length : Int)) = true ∧ (l.length : Int) = mm) ∨ (decide (most > (l.length : Int)) = false ∧ most = mm) := by
    by_cases hq : most > (l.length : Int)
    · exact .inl ⟨by simpa using hq, by rw [hmm, if_pos hq]⟩
    · exact .inr ⟨by simpa using hq, by rw [hmm, if_neg hq]⟩
  clear hmm
  obtain ⟨nst, hnst⟩ : ∃ x, x = tNum 0 mm st := ⟨_, rfl⟩
  rw [← hnst] at cN ⊢
  obtain ⟨n, st2⟩ := nst
  cases st2 with
  | none =>
    clear hnst
    rcases hcs with ⟨hd, hmq⟩ | ⟨hd, hmq⟩
    all_goals
      rw [← hmq] at cN
      clear hmq
      go_enter Tryz.func101, Tryz.ntmps101
      go_wp2_with fail
      refine cN.out.mono ?_
      rintro e W ⟨rfl, hT, hg, -⟩
      obtain ⟨v, hO2⟩ := hT.none_form
      have HT := Lib.hid hT
      clear hT
      have g1 := hO2.cell (j := 1) rfl
      have f1 := hO2.frozen 1
      have hO3 := hO2.set 1 (.bool true)
      go_wp2
      go_ret
      have hg2 := grownBy_set W bt 1 (.bool true)
      refine ⟨rfl, ?_, hg.trans hg2⟩
      obtain ⟨z0, z1, z2, z3, z4, z5, z6, z7, z8⟩ := HT.out
      have := hO2.symm.trans z5
      have e1 : v = z1 := by simp at this; exact this.1
      subst e1
      exact Tk.ofBad hO3 z6 z0 z7 hg2
  | some l2 =>
    have h0 : 0 ≤ n := by obtain ⟨_, _, _, h3, _⟩ := tNum_some hnst.symm; exact h3
    obtain ⟨m, rfl⟩ := Int.eq_ofNat_of_zero_le h0
    clear h0 hnst
    by_cases hlong : (l2.length : Int) < (m : Int)
    · have HTT := Lib.hid (show rTextOf ((m : Int), some l2) = ([], none) from if_pos hlong)
      have hd2 : decide (l2.length < m) = true := by simpa using hlong
      rw [HTT.out]
      clear hlong HTT
      rcases hcs with ⟨hd, hmq⟩ | ⟨hd, hmq⟩
      all_goals
        rw [← hmq] at cN
        clear hmq
        go_enter Tryz.func101, Tryz.ntmps101
        go_wp2_with fail
        refine cN.out.mono ?_
        rintro e W ⟨rfl, hT, hg, -⟩
        have hBw := hT.1
        obtain ⟨v, lo2, hO2, hb, hne⟩ := hT.some_form
        have HNE := Lib.hid hne
        have HB := Lib.hid hb
        obtain ⟨A2, c2, rfl, -⟩ := hb.form
        clear hT hne hb
        have g1 := hO2.cell (j := 1) rfl
        have g0' := hO2.cell (j := 0) rfl
        have f1 := hO2.frozen 1
        go_wp2
        go_ret
        have hg2 := grownBy_set W bt 1 (.bool true)
        exact ⟨rfl, Tk.ofBad (hO2.set 1 (.bool true)) HB.out hBw HNE.out hg2, hg.trans hg2⟩
    · have HTT := Lib.hid (show rTextOf ((m : Int), some l2) = (l2.take m, some (l2.drop m)) from if_neg hlong)
      have hd2 : decide (l2.length < m) = false := by simpa using hlong
      have hml : m ≤ l2.length := by omega
      have q1 : (0 : Int) ≤ (m : Int) := by omega
      have q2 : (m : Int) ≤ (l2.length : Int) := by omega
      rw [HTT.out]
      clear hlong HTT
      rcases hcs with ⟨hd, hmq⟩ | ⟨hd, hmq⟩
      all_goals
        rw [← hmq] at cN
        clear hmq
        go_enter Tryz.func101, Tryz.ntmps101
        go_wp2_with fail
        refine cN.out.mono ?_
        rintro e W ⟨rfl, hT, hg, hS⟩
        obtain ⟨b, o, n', c2, hS⟩ := hS rfl
        have hBw := hT.1
        obtain ⟨v, lo2, hO2, hb, hne⟩ := hT.some_form
        have g0' := hO2.cell (j := 0) rfl
        obtain rfl : v = .slice (some ⟨b, o, none⟩) n' c2 := by rw [hS] at g0'; simpa using g0'.symm
        have HNE := Lib.hid hne
        have HB := Lib.hid hb
        obtain ⟨A2, c', e, hc1, hc2⟩ := hb.form
        have e2 : c2 = c' := by cases e; rfl
        have e3 : n' = l2.length := by cases e; rfl
        clear e
        subst e2 e3
        clear hT hne hb hS
        have q3 : (l2.length : Int) ≤ (c2 : Int) := by omega
        have q4 : (m : Int) ≤ (c2 : Int) := by omega
        have g1 := hO2.cell (j := 1) rfl
        have f0 := hO2.frozen 0
        have hcv := run_string_at (P := Tryz.prog) (dst := 9) Tryz.underlying39 Tryz.underlying5 Tryz.underlying9 (BytesAt.upTo HB.out hml)
        have hs1 := BytesAt.onFrom HB.out hml
        have hon := hO2.set 0 (.slice (if c2 = m then some ⟨b, o, none⟩ else some ⟨b, o + m, none⟩) (l2.length - m) (c2 - m))
        by_cases hck : c2 = m
        · subst hck
          have e1 : l2.length = c2 := by omega
          simp only [if_true] at hs1 hon
          have e2 : l2.length - c2 = 0 := by omega
          rw [e2, Nat.sub_self] at hs1 hon
          clear e1 e2
          have HS1 := Lib.hid hs1
          clear hs1
          go_wp2
          go_ret
          have hg2 := grownBy_set W bt 0 (.slice (some ⟨b, o, none⟩) 0 0)
          exact ⟨rfl, Tk.ofOk hon HS1.out hBw HNE.out hg2, hg.trans hg2⟩
        · rw [if_neg hck] at hs1 hon
          have HS1 := Lib.hid hs1
          clear hs1
          go_wp2
          go_ret
          have hg2 := grownBy_set W bt 0 (.slice (some ⟨b, o + m, none⟩) (l2.length - m) (c2 - m))
          exact ⟨rfl, Tk.ofOk hon HS1.out hBw HNE.out hg2, hg.trans hg2⟩
end Ce
end Go.Proofs.YthfpfomifebpbaaGreat

namespace Go.Proofs.YthfpfomifebpbaaGreat
open Go.RowKit
namespace Ce

/-- a maker of the document's -/
def Rm (w : World) (bm : Nat) (s : List UInt8 × Bool) : Prop :=
  s.1.length ≤ 262144 ∧ ∃ v, Ob w bm 88 #[v, .bool s.2] ∧ BytesAt w (bm + 1) w.heap.size v s.1
theorem Rm.same {w w' : World} {bm : Nat} {s : List UInt8 × Bool} (h : Rm w bm s) (hb : Below w.heap.size w w') : Rm w' bm s := by
  obtain ⟨h1, v, hO, hB⟩ := h
  exact ⟨h1, v, hO.same hb, hB.mono hb hb.size⟩
theorem Rm.new (w : World) : Rm (w.alloc (.cells #[.slice none 0 0, .bool false] 88)) w.heap.size ([], false) := ⟨by simp, _, Ob.new _ _ _, BytesAt.nil _ _ _⟩

set_option maxRecDepth 100000 in
set_option maxHeartbeats 2000000 in
theorem refput_calls (x : List UInt8) (xv : Value) (bm : Nat) (s : List UInt8 × Bool) (w : World) (hM : Rm w bm s) (hx : BytesAt w 0 w.heap.size xv x) (_hxl : x.length ≤ 1000000) :
    Calls Tryz.prog 97 #[.pointer (some ⟨bm, 0, none⟩), xv] w fun e w' => e = .returned (.tuple #[]) ∧ Rm w' bm (mPut s x) ∧ w.grownBy w' (some bm) := by
  obtain ⟨i0, hi0, hz0⟩ := Option.map_eq_some_iff.1 byte_info
  simp only [Prod.mk.injEq] at hz0
  obtain ⟨hz0, hz1, hz2⟩ := hz0
  obtain ⟨S, long⟩ := s
  obtain ⟨hM1, v, hO, hR⟩ := hM
  dsimp only at hM1 hO hR
  obtain ⟨A, c, rfl, hc1, hc2⟩ := hR.form
  obtain ⟨Ax, cx, rfl, hcx1, hcx2⟩ := hx.form
  have g0 := hO.cell (j := 0) rfl
  have g1 := hO.cell (j := 1) rfl
  have f1 := hO.frozen 1
  have f0 := hO.frozen 0
  have hlt := hO.lt
  unfold maxLen at hc2 hcx2
  cases long with
  | true =>
    have HS := Lib.hid (show mPut (S, true) x = (S, true) from rfl)
    have hO2 := hO.set 1 (.bool true)
    have hg2 := grownBy_set w bm 1 (.bool true)
    go_enter Tryz.func97, Tryz.ntmps97
    go_wp2
    refine bodyPost_ret (results_none rfl _ _ _) rfl ?_
    refine ⟨rfl, ?_, hg2⟩
    rw [HS.out]
    exact ⟨hM1, _, hO2, (Sl.grown hR hg2 (Nat.le_refl _) (fun k e => .inl (by cases e; omega))).wide (Nat.le_refl _) hg2.size⟩
  | false =>
    by_cases hbig : 262144 < S.length + x.length
    · have HS := Lib.hid (show mPut (S, false) x = (S, true) by unfold mPut; rw [if_neg (by simp)]; exact if_pos hbig)
      have hd : decide ((x.length : Int) > 262144 - (S.length : Int)) = true := by simp; omega
      have hO2 := hO.set 1 (.bool true)
      have hg2 := grownBy_set w bm 1 (.bool true)
      clear hbig
      go_enter Tryz.func97, Tryz.ntmps97
      go_wp2
      refine bodyPost_ret (results_none rfl _ _ _) rfl ?_
      refine ⟨rfl, ?_, hg2⟩
      rw [HS.out]
      exact ⟨hM1, _, hO2, (Sl.grown hR hg2 (Nat.le_refl _) (fun k e => .inl (by cases e; omega))).wide (Nat.le_refl _) hg2.size⟩
    · have HS := Lib.hid (show mPut (S, false) x = (S ++ x, false) by unfold mPut; rw [if_neg (by simp)]; exact if_neg hbig)
      have hd : decide ((x.length : Int) > 262144 - (S.length : Int)) = false := by simp; omega
      have hR1 := Lib.hid (Sl.mono hR ((Below.refl _ w).alloc (Nat.le_refl _) (.cells #[] 5)) (B' := (w.alloc (.cells #[] 5)).heap.size) (by simp))
      have hx1 := Lib.hid (Sl.mono hx ((Below.refl _ w).alloc (Nat.le_refl _) (.cells #[] 5)) (B' := (w.alloc (.cells #[] 5)).heap.size) (by simp))
      have hxx := Lib.hid hx
      clear hR hx
      go_enter Tryz.func97, Tryz.ntmps97
      have tok1 : True := trivial
      go_wp2_with (first
        | (at_builtin
           have _t := tok1
           refine wpList_append_sl _ rfl (.tmp 23) (.tmp 27) _ rfl w.heap.size 5 i0 _ 1 1 Tryz.underlying39 hi0 hz0 hz1 hz2 rfl (by omega) (.slice (some ⟨w.heap.size, 0, none⟩) 0 0) 0 [] rfl (World.ownsRow_lit w #[] 0 (Nat.le_refl _) (Nat.zero_le _) rfl) (bm + 1) _ (.slice A S.length c) S.length (bytesV S) rfl hR1.out (bytesV_one S) (by unfold maxLen; omega) (by omega) (by simp) ?_
           intro v1 w1 hv1 hg1 hat1
           have hB1 : Below w.heap.size w w1 := ((Below.refl _ w).alloc (Nat.le_refl _) (.cells #[] 5)).grown hg1 (by simp) (fun g hg => by cases hg; exact Nat.le_refl _)
           have hx2 := Sl.below hxx.out hB1
           have hown : w1.ownsRow w.heap.size 5 1 v1 S.length (bytesV S) := by simpa using hv1
           clear tok1 hg1 hat1 hv1)
        | (at_builtin
           refine wpList_append_sl _ rfl (.tmp 28) (.tmp 29) _ rfl w.heap.size 5 i0 _ 1 1 Tryz.underlying39 hi0 hz0 hz1 hz2 rfl (by omega) v1 S.length (bytesV S) rfl hown 0 w.heap.size (.slice Ax x.length cx) x.length (bytesV x) rfl hx2 (bytesV_one x) (by unfold maxLen; omega) (by omega) hB1.size ?_
           intro v5 w5 hv5 hg5 hat5
           have hB5 : Below w.heap.size w w5 := hB1.grown hg5 hB1.size (fun g hg => (hown.lt g hg).1)
           obtain ⟨A5, c5, rfl, -⟩ := (Sl.of_own hv5).at_
           have hO5 := hO.same hB5
           have g5 := hO5.cell (j := 0) rfl
           have f5 := hO5.frozen 0
           clear hg5 hat5))
      have hO6 := hO5.set 0 (.slice A5 (S.length + x.length) c5)
      have hg6 := grownBy_set w5 bm 0 (.slice A5 (S.length + x.length) c5)
      have hb5 : BytesAt w5 (bm + 1) w5.heap.size (.slice A5 (S.length + x.length) c5) (S ++ x) := by
        have e1 : S.length + x.length = (S ++ x).length := by simp
        rw [← bytesV_append, e1] at hv5
        rw [e1]
        exact (BytesAt.of_own hv5).wide hlt (Nat.le_refl _)
      go_wp2
      go_end0
      refine ⟨rfl, ?_, (only_of_below hB5 _).trans hg6⟩
      rw [HS.out]
      exact ⟨by simp; omega, _, hO6, (Sl.grown hb5 hg6 (Nat.le_refl _) (fun k e => .inl (by cases e; omega))).wide (Nat.le_refl _) hg6.size⟩

set_option maxRecDepth 100000 in
set_option maxHeartbeats 1000000 in
theorem refmnum_calls (n : Int) (bm : Nat) (s : List UInt8 × Bool) (w : World) (hM : Rm w bm s) (h0 : -9223372036854775808 ≤ n) (h1 : n ≤ 9223372036854775807) :
    Calls Tryz.prog 57 #[.pointer (some ⟨bm, 0, none⟩), .int .i64 n] w fun e w' => e = .returned (.tuple #[]) ∧ Rm w' bm (mPut s (numC n)) ∧ w.grownBy w' (some bm) := by
  have cN := Lib.hid (fun W => refnum_calls n W h0 h1)
  have hl := (numC_len n).2
  have HM := Lib.hid hM
  clear hM
  generalize numC n = x at *
  go_enter Tryz.func57, Tryz.ntmps57
  go_wp2_with fail
  refine (cN.out _).mono ?_
  rintro e W1 ⟨⟨v, rfl, hv⟩, hB⟩
  obtain ⟨A, c, rfl, -⟩ := hv.form
  have cP := Lib.hid (refput_calls x _ bm s W1 (HM.out.same hB) (hv.wide (Nat.zero_le _) (Nat.le_refl _)) (by omega))
  clear hv
  go_wp2_with fail
  refine cP.out.mono ?_
  rintro e W2 ⟨rfl, hM2, hK2⟩
  go_wp2
  go_end0
  exact ⟨rfl, hM2, (only_of_below hB _).trans hK2⟩

set_option maxRecDepth 100000 in
set_option maxHeartbeats 1000000 in
theorem refmtext_calls (t : ByteArray) (bm : Nat) (s : List UInt8 × Bool) (w : World) (hM : Rm w bm s) (ht : t.size ≤ 900000) :
    Calls Tryz.prog 99 #[.pointer (some ⟨bm, 0, none⟩), .string t] w fun e w' => e = .returned (.tuple #[]) ∧ Rm w' bm (mPut s (numC t.size ++ t.data.toList)) ∧ w.grownBy w' (some bm) := by
  obtain ⟨i0, hi0, hz0⟩ := Option.map_eq_some_iff.1 byte_info
  simp only [Prod.mk.injEq] at hz0
  obtain ⟨hz0, hz1, hz2⟩ := hz0
  have cN := Lib.hid (fun W => refnum_own t.size W (by omega) (by omega))
  have hl := (numC_len t.size).2
  have HM := Lib.hid hM
  clear hM
  have HTL := Lib.hid (show t.data.toList.length = t.size from Array.length_toList)
  generalize hx : numC t.size = x at *
  clear hx
  go_enter Tryz.func99, Tryz.ntmps99
  go_wp2_with fail
  refine (cN.out _).mono ?_
  rintro e W1 ⟨⟨v, rfl, hv⟩, hB⟩
  have HV := Lib.hid hv
  obtain ⟨A, c, rfl, -⟩ := (BytesAt.of_own hv).form
  clear hv
  go_wp2_with (at_builtin
               refine Lib.wpList_append_own_string _ rfl (.tmp 7) (.tmp 8) _ _ rfl w.heap.size 5 i0 Tryz.underlying39 Tryz.underlying9 hi0 hz0 hz1 hz2 (.slice A x.length c) x.length (bytesV x) rfl HV.out t rfl (by unfold maxLen; omega) (by omega) hB.size ?_
               intro v1 w1 hv1 hg1 hnil1
               have hB1 : Below w.heap.size w w1 := hB.grown hg1 hB.size (fun g hg => (HV.out.lt g hg).1)
               clear hg1 hnil1)
  have hv2 : BytesAt w1 w.heap.size w1.heap.size v1 (x ++ t.data.toList) := by
    have e1 : x.length + t.size = (x ++ t.data.toList).length := by rw [List.length_append, HTL.out]
    have e2 : bytesV x ++ Lib.strCells t = bytesV (x ++ t.data.toList) := by rw [bytesV_append]; rfl
    rw [e1, e2] at hv1
    exact BytesAt.of_own hv1
  have hl2 : (x ++ t.data.toList).length ≤ 1000000 := by rw [List.length_append, HTL.out]; omega
  obtain ⟨A1, c1, rfl, -⟩ := hv2.form
  have cP := Lib.hid (refput_calls (x ++ t.data.toList) _ bm s w1 (HM.out.same hB1) (hv2.wide (Nat.zero_le _) (Nat.le_refl _)) hl2)
  clear hv1 hv2 hl2
  go_wp2_with fail
  refine cP.out.mono ?_
  rintro e W2 ⟨rfl, hM2, hK2⟩
  go_wp2
  go_end0
  exact ⟨rfl, hM2, (only_of_below hB1 _).trans hK2⟩
end Ce
end Go.Proofs.YthfpfomifebpbaaGreat

namespace Go.Proofs.YthfpfomifebpbaaGreat
open Go.RowKit
namespace It
theorem toAt {w : World} {lo : Nat} {v : Value} {l : List Item} (h : w.ownsRow lo 50 2 v l.length (itemCells l)) : ItemsAt w 0 w.heap.size v l := (ItemsAt.of_own h).wide (Nat.zero_le _) (Nat.le_refl _)
theorem same_true {l : List Item} : decide (l = l) = true := by simp
end It
end Go.Proofs.YthfpfomifebpbaaGreat

namespace Go.Proofs.YthfpfomifebpbaaGreat
open Go.RowKit
namespace It
open Ce

theorem tNum_never (st : Tst) : tNum 1 0 st = (0, none) := by
  cases st with
  | none => rfl
  | some l =>
    cases hf : firstC l with
    | none => exact tNum_bad hf
    | some x => exact tNum_out (n := x.1) (k := x.2) hf (by omega)
theorem ifault_calls (bt B : Nat) (st : Tst) (w : World) (h : Tk 122 w bt B st) :
    Calls Tryz.prog 96 #[.pointer (some ⟨bt, 0, none⟩)] w fun e w' => e = .returned (.slice none 0 0) ∧ Tk 122 w' bt B none ∧ w.grownBy w' (some bt) := by
  have cN := Lib.hid (tnum_calls 1 0 bt B st w h)
  rw [tNum_never] at cN
  clear h
  go_enter Tryz.func96, Tryz.ntmps96
  go_wp2_with fail
  refine cN.out.mono ?_
  rintro e W ⟨rfl, hT, hg, -⟩
  go_wp2
  go_ret
  exact ⟨rfl, hT, hg⟩

theorem ownsRow_far {w w' : World} {lo b : Nat} {e : TypeId} {size n : Nat} {v : Value} {xs : List Value} (h : w.ownsRow lo e size v n xs) (hg : w.grownBy w' (some b)) (hb : b < lo) : w'.ownsRow lo e size v n xs := by
  refine h.kept hg ?_
  cases hv : v.ownBlock with
  | none => simp
  | some g => have := (h.lt g hv).1; exact .inr (by simp; omega)
theorem itemCells_snoc (l : List Item) (s : ByteArray) (n : Int) : itemCells (l ++ [(s, n)]) = itemCells l ++ [.string s, .int .i64 n] := by simp [itemCells]
theorem rIt_succ (s : Rst) (k : Nat) : rIt s (k + 1) = ((rIt s k).1 ++ [(bs (tText 16 (rIt s k).2).1, (tNum 1 1099511627776 (tText 16 (rIt s k).2).2).1)], (tNum 1 1099511627776 (tText 16 (rIt s k).2).2).2) := rfl

set_option maxRecDepth 100000 in
set_option maxHeartbeats 4000000 in
theorem itake_calls (bt B : Nat) (st : Tst) (w : World) (h : Tk 122 w bt B st) :
    Calls Tryz.prog 54 #[.pointer (some ⟨bt, 0, none⟩)] w fun e w' => (∃ v, e = .returned v ∧ w'.ownsRow w.heap.size 50 2 v (readI st).1.length (itemCells (readI st).1)) ∧ Tk 122 w' bt B (readI st).2 ∧ w.grownBy w' (some bt) := by
  obtain ⟨i0, hi0, hz0⟩ := Option.map_eq_some_iff.1 item_info
  simp only [Prod.mk.injEq] at hz0
  obtain ⟨hz0, hz1, hz2⟩ := hz0
  have hbt : bt < w.heap.size := by obtain ⟨_, v, l, lo, bad, h1, _⟩ := h; exact h1.lt
  have hBw := h.1
  have cN := Lib.hid (tnum_calls 0 16 bt B st w h)
  have hr := tNum_range (least := 0) (most := 16) (s := st) (by omega) (by omega)
  have HR := Lib.hid (show readI st = if may (rIt ([], (tNum 0 16 st).2) (tNum 0 16 st).1.toNat).1 then rIt ([], (tNum 0 16 st).2) (tNum 0 16 st).1.toNat else ([], none) from rfl)
  have HFit := Lib.hid (rIt_fits ([], (tNum 0 16 st).2) (fun x hx => by cases hx))
  have HLen := Lib.hid (rIt_len ([], (tNum 0 16 st).2))
  clear h
  generalize readI st = RR at *
  generalize hnn : tNum 0 16 st = nn at *
  clear hnn
  obtain ⟨ni, st0⟩ := nn
  dsimp only at hr cN HR HFit HLen
  obtain ⟨n, rfl⟩ := Int.eq_ofNat_of_zero_le hr.1
  have hn16 : n ≤ 16 := by omega
  rw [Int.toNat_natCast] at HR
  clear hr
  have HS := Lib.hid (rIt_succ ([], st0))
  generalize hS0 : (([], st0) : Rst) = S0 at *
  have HS0 := Lib.hid hS0
  clear hS0
  go_enter Tryz.func54, Tryz.ntmps54
  go_wp2_with fail
  refine cN.out.mono ?_
  rintro e W0 ⟨rfl, hT0, hg0, -⟩
  go_wp2
  go_loopw [3, 4, 7] (fun o _ i wr => ∃ k : Nat, k ≤ n ∧ i = .int .i64 k ∧ wr.ownsRow w.heap.size 50 2 o k (itemCells (rIt S0 k).1) ∧ Tk 122 wr bt B (rIt S0 k).2 ∧ w.grownBy wr (some bt)) (fun _ _ i _ => n - (intOf i).toNat)
  case atStart =>
    refine ⟨0, by omega, rfl, ?_, ?_, hg0⟩
    · rw [← HS0.out]; exact World.ownsRow_nil _ _ _ _
    · rw [← HS0.out]; exact hT0
  case round =>
    obtain ⟨k, hk, rfl, hown, hT, hg⟩ := hrel
    clear hT0
    by_cases hlt : k < n
    · have hd : decide (k < n) = true := by simpa using hlt
      have cT := Lib.hid (fun W h => ttext_calls 16 bt B (rIt S0 k).2 W h)
      have cM := Lib.hid (fun W h => tnum_calls 1 1099511627776 bt B (tText 16 (rIt S0 k).2).2 W h)
      have HSk := Lib.hid (HS.out k)
      have HO := Lib.hid hown
      have HT := Lib.hid hT
      clear hown hT
      generalize rIt S0 k = rk at *
      generalize tText 16 rk.2 = tx at *
      generalize tNum 1 1099511627776 tx.2 = ty at *
      go_wp2_with fail
      refine (cT.out _ HT.out).mono ?_
      rintro e W1 ⟨rfl, hT1, hg1⟩
      have HO1 := Lib.hid (ownsRow_far HO.out hg1 hbt)
      have HT1 := Lib.hid hT1
      clear hT1
      go_wp2_with fail
      refine (cM.out _ HT1.out).mono ?_
      rintro e W2 ⟨rfl, hT2, hg2, -⟩
      have HO2 := ownsRow_far HO1.out hg2 hbt
      have hgg := (hg.trans hg1).trans hg2
      have HT2 := Lib.hid hT2
      have hsz : w.heap.size ≤ W2.heap.size := hgg.size
      clear hT2 hg1 hg2
      generalize bs tx.1 = tb at *
      generalize ty.1 = tn at *
      go_wp2_with (at_builtin
                   refine wpList_append_sl _ rfl (.tmp 11) (.tmp 16) _ rfl w.heap.size 50 i0 _ 2 24 Tryz.underlying22 hi0 hz0 hz1 hz2 rfl (by omega) u3 k _ rfl (HO2.alloc _) W2.heap.size (W2.heap.size + 1) _ 1 [.string tb, .int .i64 tn] rfl (Sl.new W2 #[.string tb, .int .i64 tn] 50 (n := 1) (size := 2) rfl (by unfold maxLen; omega)) (by simp [Value.oneCell']) (by unfold maxLen; omega) (by omega) (by simp; omega) ?_
                   intro v1 w5 hv1 hg1 hat1)
      have hga : W2.grownBy (W2.alloc (.cells #[.string tb, .int .i64 tn] 50)) (some bt) := World.grownBy_alloc W2 _ _
      have hg5 : w.grownBy w5 (some bt) := (hgg.trans hga).andThen hg1 fun j hj => .inl (HO2.lt j hj).1
      have hT5 := (HT2.out.kept (World.grownBy_alloc W2 (.cells #[.string tb, .int .i64 tn] 50) none) (by simp) (by simp)).kept hg1 (fun e => by have := (HO2.lt bt e.symm).1; omega) (fun g e => by have := (HO2.lt g e).1; omega)
      clear hg1 hat1 hga hgg HO2
      go_roundw
      case rel =>
        refine ⟨k + 1, by omega, by go_num, ?_, ?_, hg5⟩
        · rw [HSk.out, itemCells_snoc]; exact hv1
        · rw [HSk.out]; exact hT5
      case measure => simp [intOf]; omega
    · obtain rfl : k = n := by omega
      have hd : decide (k < k) = false := by simp
      have hl : (rIt S0 k).1.length = k := by rw [HLen.out]; simp
      have hF := Lib.hid (HFit.out k)
      generalize rIt S0 k = rk at *
      obtain ⟨L, stk⟩ := rk
      dsimp only at hl hown hT hF HR
      subst hl
      have HO := Lib.hid hown
      have HT := Lib.hid hT
      have hI := toAt hown
      obtain ⟨A, c, rfl, -⟩ := hI.form
      have cMay := Lib.hid (may_calls L _ wr hI hF.out)
      clear hown hT hI
      generalize may L = ml at *
      cases ml with
      | true =>
        obtain rfl : RR = (L, stk) := by rw [HR.out]; rfl
        go_wp2_with fail
        refine cMay.out.mono ?_
        rintro e W1 ⟨rfl, hB⟩
        go_wp2
        go_ret
        exact ⟨⟨_, rfl, ownsRow_below HO.out hB⟩, HT.out.same hB, hg.trans (only_of_below hB _)⟩
      | false =>
        obtain rfl : RR = ([], none) := by rw [HR.out]; rfl
        go_wp2_with fail
        refine cMay.out.mono ?_
        rintro e W1 ⟨rfl, hB⟩
        have cF := Lib.hid (ifault_calls bt B stk W1 (HT.out.same hB))
        go_wp2_with fail
        refine cF.out.mono ?_
        rintro e W2 ⟨rfl, hT2, hg2⟩
        go_wp2
        go_ret
        exact ⟨⟨_, rfl, World.ownsRow_nil _ _ _ _⟩, hT2, (hg.trans (only_of_below hB _)).trans hg2⟩

/-- the list of a code, and why not -/
def decI (b : List UInt8) : List Item × Int := if (readI (some b)).2 = some [] then ((readI (some b)).1, 0) else ([], 10)

end It
end Go.Proofs.YthfpfomifebpbaaGreat
