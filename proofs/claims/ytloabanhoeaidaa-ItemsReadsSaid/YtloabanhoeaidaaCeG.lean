/-
  cells: the maker's Num, Text, Done; the taker: Take, may, fault, Num, Left, Done.
-/
import Derived.Test.YtloabanhoeaidaaCeF
import Derived.Test.YtloabanhoeaidaaCeE
namespace Go.Proofs.Ytloabanhoeaidaa
open Go.RowKit
namespace Ce

theorem parts_nil {w : World} {B : Nat} : CatB.Parts w B [] := ⟨(fun _ hp => nomatch hp), (fun _ hp => nomatch hp)⟩
theorem parts_cons {w : World} {B n c lo : Nat} {A : Option Addr} {x : List UInt8} {r : List CatB.Part} (h : BytesAt w lo B (.slice A n c) x) (hr : CatB.Parts w B r) : CatB.Parts w B ((A, n, c, bytesV x) :: r) := by
  have hn : n = x.length := by obtain ⟨A', c', e, _⟩ := h.at_; cases e; rfl
  subst hn
  refine ⟨fun p hp => ?_, fun p hp => ?_⟩
  · rcases List.mem_cons.1 hp with rfl | hp
    · exact h.wide (Nat.zero_le _) (Nat.le_refl _)
    · exact hr.sl p hp
  · rcases List.mem_cons.1 hp with rfl | hp
    · exact bytesV_one x
    · exact hr.one p hp
theorem Mk.alloc {w : World} {bm : Nat} {Fr : Nat → Prop} {s : List UInt8 × Bool} (h : Mk w bm Fr s) (o : Obj) : Mk (w.alloc o) bm Fr s :=
  h.later ((Below.refl _ w).alloc (Nat.le_refl _) o) fun i hi => ⟨.inl hi, by have := h.2.2.1 i hi; simp; omega⟩
theorem Mk.same {w w' : World} {bm : Nat} {Fr : Nat → Prop} {s : List UInt8 × Bool} (h : Mk w bm Fr s) (hb : Below w.heap.size w w') : Mk w' bm Fr s :=
  h.later hb fun i hi => ⟨.inl hi, by have := h.2.2.1 i hi; have := hb.size; omega⟩

set_option maxRecDepth 100000 in
set_option maxHeartbeats 1000000 in
theorem mnum_calls (n : Int) (bm : Nat) (Fr : Nat → Prop) (s : List UInt8 × Bool) (w : World) (hM : Mk w bm Fr s) (h0 : -9223372036854775808 ≤ n) (h1 : n ≤ 9223372036854775807) :
    Calls Try.prog 59 #[.pointer (some ⟨bm, 0, none⟩), .int .i64 n] w fun e w' => e = .returned (.pointer (some ⟨bm, 0, none⟩)) ∧ Mk w' bm Fr (mPut s (numC n)) ∧ Kept Fr w w' := by
  have cN := Lib.hid (fun W => num_calls n W h0 h1)
  have hl := (numC_len n).2
  have hFlt := Lib.hid hM.2.2.1
  have HM := Lib.hid hM
  clear hM
  generalize numC n = x at *
  go_enter Try.func59, Try.ntmps59
  go_wp2_with fail
  refine (cN.out _).mono ?_
  rintro e W1 ⟨⟨v, rfl, hv⟩, hB⟩
  obtain ⟨A, c, rfl, -⟩ := hv.form
  have hM1 := Lib.hid (HM.out.same hB)
  have hpar := Lib.hid (hv.wide (lo' := 0) (Nat.zero_le _) (Nat.le_refl _))
  have cP := Lib.hid (put_calls x [(A, x.length, c, bytesV x)] W1.heap.size bm Fr s (W1.alloc (.cells #[.slice A x.length c] 41)) (hM1.out.alloc _) (by simp) (by simp)
    (fun j h => by
      match j, h with
      | 0, _ => unfold World.cell?; rw [heap_alloc_new]; rfl)
    (parts_cons (Sl.mono hpar.out ((Below.refl _ W1).alloc (Nat.le_refl _) _) (by simp)) parts_nil) (by simp [CatB.all]) (by simp [CatB.lens]) (by omega))
  clear hv
  go_wp2_with fail
  refine cP.out.mono ?_
  rintro e W2 ⟨rfl, hM2, hK2⟩
  go_wp2
  go_ret
  exact ⟨rfl, hM2, ((Kept.of_below hB hFlt.out).trans (Kept.of_below ((Below.refl _ W1).alloc (Nat.le_refl _) _) (fun i hi => Nat.lt_of_lt_of_le (hFlt.out i hi) hB.size))).trans hK2⟩

theorem conv_at {P : Program} {src dst e : TypeId} (hs : P.underlying src = some .string) (hd : P.underlying dst = some (.slice e)) (he : P.underlying e = some (.int .u8)) (s : ByteArray) (w : World) (hl : s.size ≤ 1000000) :
    ∃ c W', (convert src dst (.string s)).run P w = .ok (.slice (some ⟨w.heap.size, 0, none⟩) s.size c) W' ∧ BytesAt W' w.heap.size W'.heap.size (.slice (some ⟨w.heap.size, 0, none⟩) s.size c) s.data.toList ∧ Below w.heap.size w W' := by
  refine ⟨_, _, run_bytes_of_string w src dst e s hs hd he, ?_, ((Below.refl w.heap.size w).drew).alloc (Nat.le_refl _) _⟩
  have hge := grownCap_ge w s.size 0 e
  have hG := grownCap_le_maxLen w s.size 0 e (by unfold maxLen; omega)
  generalize grownCap w s.size 0 e = G at *
  have hsz : s.data.toList.length = s.size := Array.length_toList
  refine ⟨by rw [bytesV_length]; simp, _, _, by rw [hsz], by omega, hG, fun hn => ⟨w.heap.size, 0, rfl, Nat.le_refl _, by rw [World.size_alloc]; exact Nat.lt_succ_self _, fun j hj => ?_⟩⟩
  have := World.cell?_alloc_mark w.drew (bytesRow s G) e ((bytesRow s G).size, (bytesRow s G).size + 1) (0 + j)
  rw [show w.drew.heap.size = w.heap.size from rfl] at this
  rw [this, Nat.zero_add]
  have hjs : j < s.data.size := by simpa using hj
  rw [bytesRow_at s G j hjs]
  unfold bytesV
  rw [List.getElem?_map, Array.getElem?_toList, Array.getElem?_eq_getElem hjs]
  rfl

set_option maxRecDepth 100000 in
set_option maxHeartbeats 1000000 in
theorem mtext_calls (t : ByteArray) (bm : Nat) (Fr : Nat → Prop) (s : List UInt8 × Bool) (w : World) (hM : Mk w bm Fr s) (ht : t.size ≤ 900000) :
    Calls Try.prog 60 #[.pointer (some ⟨bm, 0, none⟩), .string t] w fun e w' => e = .returned (.pointer (some ⟨bm, 0, none⟩)) ∧ Mk w' bm Fr (mPut s (numC t.size ++ t.data.toList)) ∧ Kept Fr w w' := by
  have cN := Lib.hid (fun W => num_calls t.size W (by omega) (by omega))
  have hl := (numC_len t.size).2
  have hFlt := Lib.hid hM.2.2.1
  have HM := Lib.hid hM
  clear hM
  have htl : t.data.toList.length = t.size := Array.length_toList
  have HTL := Lib.hid htl
  clear htl
  generalize hx : numC t.size = x at *
  have HX := Lib.hid hx
  clear hx
  go_enter Try.func60, Try.ntmps60
  go_wp2_with fail
  refine (cN.out _).mono ?_
  rintro e W1 ⟨⟨v, rfl, hv⟩, hB⟩
  obtain ⟨A, c, rfl, -⟩ := hv.form
  have hM1 := Lib.hid (HM.out.same hB)
  obtain ⟨c2, W2, hcv, hb2, hB2⟩ := conv_at (P := Try.prog) (src := 9) (dst := 41) Try.underlying9 Try.underlying41 Try.underlying5 t W1 (by omega)
  have hM2 := Lib.hid (hM1.out.same hB2)
  have hpar := Lib.hid ((hv.mono hB2 hB2.size).wide (lo' := 0) (Nat.zero_le _) (Nat.le_refl _))
  have hpar2 := Lib.hid (hb2.wide (lo' := 0) (Nat.zero_le _) (Nat.le_refl _))
  have cP := Lib.hid (put_calls (x ++ t.data.toList) [(A, x.length, c, bytesV x), (some ⟨W1.heap.size, 0, none⟩, t.size, c2, bytesV t.data.toList)] W2.heap.size bm Fr s (W2.alloc (.cells #[.slice A x.length c, .slice (some ⟨W1.heap.size, 0, none⟩) t.size c2] 41)) (hM2.out.alloc _) (by simp) (by simp)
    (fun j h => by
      match j, h with
      | 0, _ => unfold World.cell?; rw [heap_alloc_new]; rfl
      | 1, _ => unfold World.cell?; rw [heap_alloc_new]; rfl)
    (parts_cons (Sl.mono hpar.out ((Below.refl _ W2).alloc (Nat.le_refl _) _) (by simp)) (parts_cons (Sl.mono hpar2.out ((Below.refl _ W2).alloc (Nat.le_refl _) _) (by simp)) parts_nil)) (by simp [CatB.all, bytesV_append]) (by simp [CatB.lens, HTL.out]) (by simp [HTL.out]; omega))
  clear hv hb2
  have hKK := Lib.hid ((Kept.of_below hB hFlt.out).trans ((Kept.of_below hB2 (fun i hi => Nat.lt_of_lt_of_le (hFlt.out i hi) hB.size)).trans (Kept.of_below ((Below.refl _ W2).alloc (Nat.le_refl _) (.cells #[.slice A x.length c, .slice (some ⟨W1.heap.size, 0, none⟩) t.size c2] 41)) (fun i hi => Nat.lt_of_lt_of_le (hFlt.out i hi) (Nat.le_trans hB.size hB2.size)))))
  go_wp2_with fail
  refine cP.out.mono ?_
  rintro e W3 ⟨rfl, hM3, hK3⟩
  go_wp2
  go_ret
  exact ⟨rfl, hM3, hKK.out.trans hK3⟩

set_option maxHeartbeats 1000000 in
theorem mdone_calls (bm : Nat) (Fr : Nat → Prop) (s : List UInt8 × Bool) (w : World) (hM : Mk w bm Fr s) (hs : s.2 = false) :
    Calls Try.prog 61 #[.pointer (some ⟨bm, 0, none⟩)] w fun e w' => (∃ v, e = .returned (.tuple #[v, .int .i64 0]) ∧ w'.ownsRow w.heap.size 5 1 v s.1.length (bytesV s.1)) ∧ Below w.heap.size w w' := by
  obtain ⟨S, long⟩ := s
  dsimp only at hs
  subst hs
  obtain ⟨hM1, hM2, hM3, v, hO, hR, hG⟩ := hM
  dsimp only at hM1 hO hR ⊢
  have cC := Lib.hid (cloneb_calls S v w ((BytesAt.of_own hR).wide (Nat.zero_le _) (Nat.le_refl _)) (by omega))
  obtain ⟨A, c, rfl, hc1, hc2⟩ := (BytesAt.of_own hR).form
  have g0 := hO.cell (j := 0) rfl
  have g1 := hO.cell (j := 1) rfl
  clear hM3 hG hR hc2
  go_enter Try.func61, Try.ntmps61
  go_wp2_with fail
  refine cC.out.mono ?_
  rintro e W1 ⟨⟨cv, rfl, hcv⟩, hB⟩
  obtain ⟨A1, c1, rfl, -⟩ := (BytesAt.of_own hcv).form
  go_wp2
  go_ret2
  exact ⟨⟨_, rfl, hcv⟩, hB⟩

/-- a taker: what is left, or a fault; the bytes lie below B -/
def Tk (T : TypeId) (w : World) (bt B : Nat) (st : Tst) : Prop :=
  B ≤ w.heap.size ∧ ∃ v l lo bad, Ob w bt T #[v, .bool bad] ∧ BytesAt w lo B v l ∧ (B ≤ bt ∨ bt < lo) ∧ st = (if bad = true then none else some l)
theorem Tk.none_form {T : TypeId} {w : World} {bt B : Nat} (h : Tk T w bt B none) : ∃ v, Ob w bt T #[v, .bool true] := by
  obtain ⟨_, v, l, lo, bad, h1, _, _, h4⟩ := h
  cases bad with
  | true => exact ⟨v, h1⟩
  | false => simp at h4
theorem Tk.some_form {T : TypeId} {w : World} {bt B : Nat} {l : List UInt8} (h : Tk T w bt B (some l)) : ∃ v lo, Ob w bt T #[v, .bool false] ∧ BytesAt w lo B v l ∧ (B ≤ bt ∨ bt < lo) := by
  obtain ⟨_, v, l', lo, bad, h1, h2, h3, h4⟩ := h
  cases bad with
  | true => simp at h4
  | false =>
    simp at h4
    subst h4
    exact ⟨v, lo, h1, h2, h3⟩
theorem Tk.kept {T : TypeId} {w w' : World} {bt B : Nat} {st : Tst} {row : Option Nat} (h : Tk T w bt B st) (hg : w.grownBy w' row) (h1 : some bt ≠ row) (h2 : ∀ g, row = some g → B ≤ g) : Tk T w' bt B st := by
  obtain ⟨h0, v, l, lo, bad, h3, h4, h5, h6⟩ := h
  exact ⟨Nat.le_trans h0 hg.size, v, l, lo, bad, h3.kept hg h1, Sl.grown h4 hg h0 (fun k e => .inr (h2 k e)), h5, h6⟩
theorem Tk.same {T : TypeId} {w w' : World} {bt B : Nat} {st : Tst} (h : Tk T w bt B st) (hb : Below w.heap.size w w') : Tk T w' bt B st := h.kept (only_of_below hb none) (by simp) (by simp)
theorem Tk.ofBad {T : TypeId} {w w' : World} {bt B : Nat} {v : Value} (ho : Ob w' bt T #[v, .bool true]) {l : List UInt8} {lo : Nat} (hb : BytesAt w lo B v l) (hB : B ≤ w.heap.size) (hne : B ≤ bt ∨ bt < lo) (hg : w.grownBy w' (some bt)) : Tk T w' bt B none :=
  ⟨Nat.le_trans hB hg.size, v, l, lo, true, ho, Sl.grown hb hg hB (fun k e => by cases e; exact hne.symm), hne, by simp⟩
theorem Tk.ofOk {T : TypeId} {w w' : World} {bt B : Nat} {v : Value} (ho : Ob w' bt T #[v, .bool false]) {l : List UInt8} {lo : Nat} (hb : BytesAt w lo B v l) (hB : B ≤ w.heap.size) (hne : B ≤ bt ∨ bt < lo) (hg : w.grownBy w' (some bt)) : Tk T w' bt B (some l) :=
  ⟨Nat.le_trans hB hg.size, v, l, lo, false, ho, Sl.grown hb hg hB (fun k e => by cases e; exact hne.symm), hne, rfl⟩
/-- what is left is no nil slice -/
def Sure (w : World) (bt : Nat) : Prop := ∃ b o n c, w.cell? ⟨bt, 0, none⟩ = some (.slice (some ⟨b, o, none⟩) n c)
theorem BytesAt.onFrom {w : World} {lo B n k c : Nat} {b o : Nat} {l : List UInt8} (h : BytesAt w lo B (.slice (some ⟨b, o, none⟩) n c) l) (hk : k ≤ l.length) :
    BytesAt w lo B (.slice (if c = k then some ⟨b, o, none⟩ else some ⟨b, o + k, none⟩) (n - k) (c - k)) (l.drop k) := by
  have hn : n = l.length := by obtain ⟨A', c', e, _⟩ := h.at_; cases e; rfl
  subst hn
  have := Sl.onFrom (k := k) h hk
  unfold BytesAt
  rw [List.length_drop, show bytesV (l.drop k) = (bytesV l).drop (k * 1) by simp [bytesV, List.map_drop]]
  rw [Nat.mul_one] at this ⊢
  exact this

theorem tmay_calls (bt : Nat) (bad : Bool) (w : World) (h : w.cell? ⟨bt, 1, none⟩ = some (.bool bad)) :
    Calls Try.prog 57 #[.pointer (some ⟨bt, 0, none⟩)] w fun e w' => e = .returned (.bool (!bad)) ∧ w = w' := by
  go_enter Try.func57, Try.ntmps57
  go_wp2
  go_ret
  exact ⟨rfl, rfl⟩
theorem fault_calls (bt : Nat) (u : Value) (w : World) (h : w.cell? ⟨bt, 1, none⟩ = some u) (hf : w.frozen? ⟨bt, 1, none⟩ = false) :
    Calls Try.prog 70 #[.pointer (some ⟨bt, 0, none⟩)] w fun e w' => e = .returned (.tuple #[]) ∧ w.setCell ⟨bt, 1, none⟩ (.bool true) = w' := by
  go_enter Try.func70, Try.ntmps70
  go_wp2
  go_end0
  exact ⟨rfl, rfl⟩

set_option maxHeartbeats 1000000 in
theorem take_calls (l : List UInt8) (v : Value) (w : World) (h : BytesAt w 0 w.heap.size v l) (hl : l.length ≤ 140737488351232) :
    Calls Try.prog 30 #[v] w fun e w' => (∃ bt, e = .returned (.pointer (some ⟨bt, 0, none⟩)) ∧ w.heap.size ≤ bt ∧ bt < w'.heap.size ∧ Tk 76 w' bt bt (some l)) ∧ Below w.heap.size w w' := by
  have cC := Lib.hid (cloneb_calls l v w h hl)
  obtain ⟨A, c, rfl, -⟩ := h.form
  clear hl h
  go_enter Try.func30, Try.ntmps30
  go_wp2_with fail
  refine cC.out.mono ?_
  rintro e W1 ⟨⟨cv, rfl, hcv⟩, hB⟩
  have hb1 := BytesAt.of_own hcv
  obtain ⟨A1, c1, rfl, -⟩ := hb1.form
  go_wp2
  go_ret
  refine ⟨⟨_, rfl, hB.size, by simp, by simp, _, l, w.heap.size, false, Ob.new _ _ _, Sl.below hb1 ((Below.refl _ W1).alloc (Nat.le_refl _) _), .inl (Nat.le_refl _), rfl⟩, hB.alloc hB.size _⟩

set_option maxRecDepth 100000 in
set_option maxHeartbeats 2000000 in
theorem tnum_calls (least most : Int) (bt B : Nat) (st : Tst) (w : World) (h : Tk 76 w bt B st) :
    Calls Try.prog 52 #[.pointer (some ⟨bt, 0, none⟩), .int .i64 least, .int .i64 most] w fun e w' => e = .returned (.int .i64 (tNum least most st).1) ∧ Tk 76 w' bt B (tNum least most st).2 ∧ w.grownBy w' (some bt) ∧ ((tNum least most st).2.isSome = true → Sure w' bt) := by
  have hBw := h.1
  cases st with
  | none =>
    have HT := Lib.hid h
    obtain ⟨v, hO⟩ := h.none_form
    have g1 := hO.cell (j := 1) rfl
    have cM := Lib.hid (tmay_calls bt true w g1)
    clear h
    go_enter Try.func52, Try.ntmps52
    go_wp2_with fail
    refine cM.out.mono ?_
    rintro e W ⟨rfl, rfl⟩
    go_wp2
    go_ret
    exact ⟨rfl, HT.out, World.grownBy.refl _ _, fun h => by cases h⟩
  | some l =>
    obtain ⟨v, lo, hO, hb, hne⟩ := h.some_form
    have g1 := hO.cell (j := 1) rfl
    have g0 := hO.cell (j := 0) rfl
    have hlt := hO.lt
    have cM := Lib.hid (tmay_calls bt false w g1)
    have cF := Lib.hid (first_calls l v w (hb.wide (Nat.zero_le _) hBw))
    have HNE := Lib.hid hne
    have HB := Lib.hid hb
    clear h hne
    obtain ⟨A, c, rfl, hc1, hc2⟩ := hb.form
    unfold maxLen at hc2
    cases hf : firstC l with
    | none =>
      have HR := Lib.hid (show firstR l = (0, 0, 10) by unfold firstR; rw [hf])
      rw [tNum_bad hf]
      rw [HR.out] at cF
      clear hf hb
      go_enter Try.func52, Try.ntmps52
      go_wp2_with fail
      refine cM.out.mono ?_
      rintro e W ⟨rfl, rfl⟩
      go_wp2_with fail
      refine cF.out.mono ?_
      rintro e W1 ⟨rfl, hB⟩
      have hO1 := hO.same hB
      have g11 := hO1.cell (j := 1) rfl
      have f11 := hO1.frozen 1
      have cFa := Lib.hid (fault_calls bt _ W1 g11 f11)
      go_wp2_with fail
      refine cFa.out.mono ?_
      rintro e W2 ⟨rfl, rfl⟩
      go_wp2
      go_ret
      have hg := grownBy_set W1 bt 1 (.bool true)
      exact ⟨rfl, Tk.ofBad (hO1.set 1 (.bool true)) (Sl.below HB.out (hB.mono hBw)) (Nat.le_trans hBw hB.size) HNE.out hg, (only_of_below hB (some bt)).trans hg, fun h => by cases h⟩
    | some x =>
      obtain ⟨n, k⟩ := x
      have hfs := firstC_some hf
      have HR := Lib.hid (show firstR l = (n, (k : Int), 0) by unfold firstR; rw [hf])
      rw [HR.out] at cF
      by_cases hout : n < least ∨ most < n
      · rw [tNum_out hf hout]
        have hcs : decide (n < least) = true ∨ (decide (n < least) = false ∧ decide (n > most) = true) := by
          by_cases h1 : n < least
          · exact .inl (by simpa using h1)
          · exact .inr ⟨by simpa using h1, by simp; omega⟩
        clear hf hb hfs hout
        rcases hcs with hd | ⟨hd, hd2⟩
        all_goals
          go_enter Try.func52, Try.ntmps52
          go_wp2_with fail
          refine cM.out.mono ?_
          rintro e W ⟨rfl, rfl⟩
          go_wp2_with fail
          refine cF.out.mono ?_
          rintro e W1 ⟨rfl, hB⟩
          have hO1 := hO.same hB
          have g11 := hO1.cell (j := 1) rfl
          have f11 := hO1.frozen 1
          have cFa := Lib.hid (fault_calls bt _ W1 g11 f11)
          go_wp2_with fail
          refine cFa.out.mono ?_
          rintro e W2 ⟨rfl, rfl⟩
          go_wp2
          go_ret
          have hg := grownBy_set W1 bt 1 (.bool true)
          exact ⟨rfl, Tk.ofBad (hO1.set 1 (.bool true)) (Sl.below HB.out (hB.mono hBw)) (Nat.le_trans hBw hB.size) HNE.out hg, (only_of_below hB (some bt)).trans hg, fun h => by cases h⟩
      · have hd1 : decide (n < least) = false := by simp; omega
        have hd2 : decide (n > most) = false := by simp; omega
        rw [tNum_in hf hout]
        obtain ⟨b, o, rfl, -⟩ := hb.cellAt (j := 0) (by omega)
        have hk1 : k ≤ l.length := hfs.2.2.1
        have q1 : (0 : Int) ≤ (k : Int) := by omega
        have q2 : (k : Int) ≤ (l.length : Int) := by omega
        have q3 : (l.length : Int) ≤ (c : Int) := by omega
        have hslice := Lib.hid (fun W (hW : Below w.heap.size w W) => BytesAt.onFrom (k := k) (Sl.below HB.out (hW.mono hBw)) hk1)
        clear hf hb hfs hout
        by_cases hck : c = k
        · subst hck
          simp only [if_true] at hslice
          have hlc : l.length = c := by omega
          have e1 : l.length - c = 0 := by omega
          rw [e1, Nat.sub_self] at hslice
          clear e1 hlc
          go_enter Try.func52, Try.ntmps52
          go_wp2_with fail
          refine cM.out.mono ?_
          rintro e W ⟨rfl, rfl⟩
          go_wp2_with fail
          refine cF.out.mono ?_
          rintro e W1 ⟨rfl, hB⟩
          have hO1 := hO.same hB
          have g11 := hO1.cell (j := 1) rfl
          have g10 := hO1.cell (j := 0) rfl
          have f10 := hO1.frozen 0
          have hs1 := hslice.out W1 hB
          go_wp2
          go_ret
          have hg := grownBy_set W1 bt 0 (.slice (some ⟨b, o, none⟩) 0 0)
          exact ⟨rfl, Tk.ofOk (hO1.set 0 _) hs1 (Nat.le_trans hBw hB.size) HNE.out hg, (only_of_below hB (some bt)).trans hg, fun _ => ⟨_, _, _, _, (hO1.set 0 _).cell (j := 0) rfl⟩⟩
        · rw [if_neg hck] at hslice
          go_enter Try.func52, Try.ntmps52
          go_wp2_with fail
          refine cM.out.mono ?_
          rintro e W ⟨rfl, rfl⟩
          go_wp2_with fail
          refine cF.out.mono ?_
          rintro e W1 ⟨rfl, hB⟩
          have hO1 := hO.same hB
          have g11 := hO1.cell (j := 1) rfl
          have g10 := hO1.cell (j := 0) rfl
          have f10 := hO1.frozen 0
          have hs1 := hslice.out W1 hB
          go_wp2
          go_ret
          have hg := grownBy_set W1 bt 0 (.slice (some ⟨b, o + k, none⟩) (l.length - k) (c - k))
          exact ⟨rfl, Tk.ofOk (hO1.set 0 _) hs1 (Nat.le_trans hBw hB.size) HNE.out hg, (only_of_below hB (some bt)).trans hg, fun _ => ⟨_, _, _, _, (hO1.set 0 _).cell (j := 0) rfl⟩⟩
end Ce
end Go.Proofs.Ytloabanhoeaidaa
