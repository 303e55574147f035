/-
  items: what the laws Takes and Reads say is true.
-/
import Derived.Test.YtloabanhoeaidaaItCC
import Derived.Test.YtloabanhoeaidaaPure
namespace Go.Proofs.Ytloabanhoeaidaa
open Go.RowKit
namespace It
open Ce

theorem hmxT : Try.prog.follows .mixedOrders = true := by kernel_rfl

set_option maxRecDepth 100000 in
set_option maxHeartbeats 4000000 in
theorem takes_law (b : List UInt8) (v : Value) (w : World) (hI : BytesAt w 0 w.heap.size v b) (hbl : b.length ≤ 140737488351232) :
    Calls Try.prog 8 #[v] w fun e w' => e = .returned (.bool true) ∧ Below w.heap.size w w' := by
  have cTk := Lib.hid (take_calls b v w hI hbl)
  have cL := Lib.hid lives_calls
  have cI := Lib.hid (fun bt B W h => itake_calls bt B (some b) W h)
  have cR := Lib.hid (fun bt B W h => refread_calls bt B (some b) W h)
  have HB := Lib.hid hI
  have HN := Lib.hid (fun h => readI_none (s := some b) h)
  obtain ⟨A, c, rfl, -⟩ := hI.form
  clear hI hbl
  generalize readI (some b) = RR at *
  go_enter Try.func8, Try.ntmps8
  go_wp2_with fail
  refine cTk.out.mono ?_
  rintro e W1 ⟨⟨bt, rfl, hbt0, hbt, hT⟩, hB1⟩
  have hT1 := hT.same ((Below.refl _ W1).alloc (Nat.le_refl _) (.cells #[.slice A b.length c, .bool false] 46))
  have hX1 : Tk 46 (W1.alloc (.cells #[.slice A b.length c, .bool false] 46)) W1.heap.size w.heap.size (some b) :=
    ⟨by have := hB1.size; simp; omega, _, b, 0, false, Ob.new _ _ _, (Sl.below (HB.out.below hB1) ((Below.refl w.heap.size W1).alloc hB1.size _)), .inl hB1.size, rfl⟩
  have hB2 := hB1.alloc hB1.size (.cells #[.slice A b.length c, .bool false] 46)
  have hbx : W1.heap.size < (W1.alloc (.cells #[.slice A b.length c, .bool false] 46)).heap.size := by simp
  have hbxw := hB1.size
  have HT1 := Lib.hid hT1
  have HX1 := Lib.hid hX1
  clear hT hT1 hX1
  go_wp2_with fail
  generalize W1.alloc (.cells #[.slice A b.length c, .bool false] 46) = W2 at *
  generalize W1.heap.size = bx at *
  refine (cL.out _).mono ?_
  rintro e W3 ⟨rfl, hb3⟩
  have cI3 := Lib.hid (cI.out bt bt W3 (HT1.out.same hb3))
  have HX3 := Lib.hid (HX1.out.same hb3)
  have hB3 := hB2.trans (hb3.mono hB2.size)
  have hs3 := hb3.size
  clear hb3
  go_wp2_with fail
  refine cI3.out.mono ?_
  rintro e W4 ⟨⟨kv, rfl, hk⟩, hT4, hg4⟩
  have hB4 : Below w.heap.size w W4 := hB3.grown hg4 hB3.size (fun g e => by cases e; exact hbt0)
  have cR4 := Lib.hid (cR.out bx w.heap.size W4 (HX3.out.kept hg4 (fun e => by have := Option.some.inj e; omega) (fun g e => by have := Option.some.inj e; omega)))
  have hs4 := hg4.size
  have HK := Lib.hid hk
  have HT4 := Lib.hid hT4
  obtain ⟨Ak, ck, rfl, -⟩ := (toAt hk).form
  clear hk hT4 hg4
  go_wp2_with fail
  refine cR4.out.mono ?_
  rintro e W5 ⟨⟨lv, l, rfl, hl, hl1, hF⟩, ⟨st, hX5, hst⟩, hg5⟩
  have hB5 : Below w.heap.size w W5 := hB4.grown hg5 hB4.size (fun g e => by have := Option.some.inj e; omega)
  have hT5 := HT4.out.kept hg5 (fun e => by have := Option.some.inj e; omega) (fun g e => by have := Option.some.inj e; omega)
  have hK5 := toAt (ownsRow_far HK.out hg5 (by omega))
  have hL5 := toAt hl
  obtain ⟨Al, cl, rfl, -⟩ := hL5.form
  clear hl hg5
  obtain ⟨r, rst⟩ := RR
  dsimp only at HN hT5 hK5 hl1 hst HK HT4 cR4 cI3 ⊢
  cases rst with
  | none =>
    obtain rfl : r = [] := HN.out rfl
    have cLe := Lib.hid (tleft_calls bt bt none W5 hT5)
    have cDo := Lib.hid (tdone_calls bt bt none W5 hT5)
    rw [show Ce.leftOf none = 0 from rfl] at cLe
    rw [show Ce.doneOf none = 10 from rfl] at cDo
    clear hT5 hK5 hl1 hst hX5 hL5
    go_wp2_with fail
    refine cLe.out.mono ?_
    rintro e W6 ⟨rfl, rfl⟩
    go_wp2_with fail
    refine cDo.out.mono ?_
    rintro e W6 ⟨rfl, rfl⟩
    go_wp2
    go_ret
    exact ⟨rfl, hB5⟩
  | some q =>
    obtain rfl : l = r := hl1 rfl
    obtain rfl : st = some q := hst rfl
    obtain ⟨xv, lo, hO, hq, -⟩ := hX5.some_form
    obtain ⟨Aq, cq, rfl, -⟩ := hq.form
    have hOl := hO.lt
    have g0 : W5.cell? ⟨bx, 0, none⟩ = some (.slice Aq q.length cq) := hO.cell (j := 0) rfl
    have HTq := Lib.hid (fun W (h : Below W5.drew.heap.size W5.drew W) => (hT5.same ((Below.refl _ W5).drew)).same h)
    have HK5 := Lib.hid (fun W (h : Below W5.drew.heap.size W5.drew W) => (hK5.mono ((Below.refl _ W5).drew) (Nat.le_refl _) : ItemsAt W5.drew 0 W5.drew.heap.size _ _).mono h h.size)
    have HL5 := Lib.hid (fun W (h : Below W5.drew.heap.size W5.drew W) => (hL5.mono ((Below.refl _ W5).drew) (Nat.le_refl _) : ItemsAt W5.drew 0 W5.drew.heap.size _ _).mono h h.size)
    have cS := Lib.hid (fun W h => refsame_calls l l _ _ W (HK5.out W h) (HL5.out W h))
    rw [same_true] at cS
    have cLe := Lib.hid (fun W h => tleft_calls bt bt (some q) W (HTq.out W h))
    rw [show Ce.leftOf (some q) = (q.length : Int) from rfl] at cLe
    have hqq : ((q.length : Int) == (q.length : Int)) = true := by simp
    clear hT5 hK5 hl1 hst hX5 hL5 hq HTq HK5 HL5
    go_wp2_with fail
    refine Pu.regionW (fun W' => Below W5.drew.heap.size W5.drew W') hmxT (by kernel_rfl) (by kernel_rfl) (Below.refl _ _) rfl ?_
    iterate 14 (first
      | (refine Pu.Walk.off (by rfl) ?_; simp only [Act.put, List.setIfInBounds_toArray, List.set_cons_succ, List.set_cons_zero])
      | (apply Pu.Walk.on (by rfl)
         · intro W6 h6
           have g6 : W6.cell? ⟨bx, 0, none⟩ = some (.slice Aq q.length cq) := (Below.cell (p := ⟨bx, 0, none⟩) h6 hOl).trans g0
           go_wp2_with (first
             | (go_at_call 20; refine (cS.out _ h6).mono ?_; rintro e W7 ⟨rfl, hb7⟩; have h6 := h6.trans (hb7.mono h6.size))
             | (go_at_call 33; refine (cLe.out _ h6).mono ?_; rintro e W7 ⟨rfl, rfl⟩))
           refine ⟨rfl, ?_, h6⟩
           try simp only [Act.put, List.setIfInBounds_toArray, List.set_cons_succ, List.set_cons_zero]
           rfl
         simp only [Act.put, List.setIfInBounds_toArray, List.set_cons_succ, List.set_cons_zero]))
    refine Pu.Walk.nil (fun W6 h6 => ?_)
    have hB6 : Below w.heap.size w W6 := (hB5.trans ((Below.refl w.heap.size W5).drew)).trans (h6.mono hB5.size)
    clear g0 hqq
    go_wp2
    go_ret
    exact ⟨rfl, hB6⟩

theorem decI_put {L : List Item} (h : may L = true) : decI (Ce.encI L) = (L, 0) := by
  have := readI_put h []
  rw [List.append_nil] at this
  unfold decI
  rw [this]
  rfl
theorem decI_cases (b : List UInt8) : (decI b = ([], 10)) ∨ ((decI b).2 = 0 ∧ may (decI b).1 = true ∧ Ce.encI (decI b).1 = b) := by
  unfold decI
  by_cases h : (readI (some b)).2 = some []
  · rw [if_pos h]
    refine .inr ⟨rfl, readI_may, ?_⟩
    have := readI_took h
    rw [List.append_nil] at this
    exact this.symm
  · rw [if_neg h]; exact .inl rfl
theorem bs_str (l : List UInt8) : (⟨l.toArray⟩ : ByteArray) = bs l := rfl

set_option maxRecDepth 100000 in
set_option maxHeartbeats 4000000 in
theorem reads_law (b : List UInt8) (v : Value) (w : World) (hI : BytesAt w 0 w.heap.size v b) (hbl : b.length ≤ 140737488351232) :
    Calls Try.prog 10 #[v] w fun e w' => e = .returned (.bool true) ∧ Below w.heap.size w w' := by
  obtain ⟨i0, hi0, hz0⟩ := Option.map_eq_some_iff.1 byte_info
  simp only [Prod.mk.injEq] at hz0
  obtain ⟨hz0, hz1, hz2⟩ := hz0
  have HI := Lib.hid (fun W (h : Below w.heap.size w W) => hI.mono h h.size)
  have HBL := Lib.hid hbl
  have cD := Lib.hid (fun u W h => decode_calls b u W h HBL.out)
  have crD := Lib.hid (fun W h => refdecode_calls b v W (HI.out W h))
  have cL := Lib.hid lives_calls
  have HD := Lib.hid (decI_cases b)
  obtain ⟨A, c, rfl, hc1, hc2⟩ := hI.form
  have h0 := Lib.hid hI
  clear hI hbl
  unfold maxLen at hc2
  generalize decI b = D at *
  obtain ⟨l, de⟩ := D
  dsimp only at cD crD HD
  go_enter Try.func10, Try.ntmps10
  go_wp2_with (at_builtin
               refine wpList_append_sl _ rfl (.tmp 10) (.tmp 11) _ rfl w.heap.size 5 i0 _ 1 1 Try.underlying41 hi0 hz0 hz1 hz2 rfl (by omega) (.slice (some ⟨w.heap.size, 0, none⟩) 0 0) 0 [] rfl (World.ownsRow_lit w #[] 0 (Nat.le_refl _) (Nat.zero_le _) rfl) 0 w.heap.size _ b.length (bytesV b) rfl (Sl.below h0.out ((Below.refl _ w).alloc (Nat.le_refl _) _)) (bytesV_one b) (by have := HBL.out; unfold maxLen; omega) (by have := HBL.out; omega) (by simp) ?_
               intro v1 w1 hv1 hg1 hat1
               have hB : Below w.heap.size w w1 := ((Below.refl _ w).alloc (Nat.le_refl _) (.cells #[] 5)).grown hg1 (by simp) (fun g hg => by cases hg; exact Nat.le_refl _)
               clear hg1 hat1)
  have hown : w1.ownsRow w.heap.size 5 1 v1 b.length (bytesV b) := by simpa using hv1
  have hx1 := BytesAt.all hown
  obtain ⟨A1, c1, rfl, -⟩ := hx1.form
  clear hv1 hown
  refine (cD.out _ _ hx1).mono ?_
  rintro e W2 ⟨⟨x, rfl, hx⟩, hb2⟩
  have hB := hB.trans (hb2.mono hB.size)
  have hx1 := hx1.mono hb2 hb2.size
  have hx2 := toAt hx
  obtain ⟨A2, c2, rfl, -⟩ := hx2.form
  clear hb2 hx
  go_wp2_with fail
  refine (crD.out _ hB).mono ?_
  rintro e W3 ⟨⟨y, rfl, hy⟩, hb3⟩
  have hB := hB.trans (hb3.mono hB.size)
  have hx1 := hx1.mono hb3 hb3.size
  have hx2 := hx2.mono hb3 hb3.size
  have hx3 := toAt hy
  obtain ⟨A3, c3, rfl, -⟩ := hx3.form
  clear hb3 hy
  go_wp2_with fail
  refine (cL.out _).mono ?_
  rintro e W4 ⟨rfl, hb4⟩
  have hB := hB.trans (hb4.mono hB.size)
  have hx1 := hx1.mono hb4 hb4.size
  have hx2 := hx2.mono hb4 hb4.size
  have hx3 := hx3.mono hb4 hb4.size
  have cS := refsame_calls l l _ _ W4 hx2 hx3
  rw [same_true] at cS
  have CS := Lib.hid cS
  clear cS hb4
  go_wp2_with fail
  refine CS.out.mono ?_
  rintro e W5 ⟨rfl, hb5⟩
  have hB := hB.trans (hb5.mono hB.size)
  have hx1 := hx1.mono hb5 hb5.size
  have hx2 := hx2.mono hb5 hb5.size
  have hcv := run_string_at (P := Try.prog) (dst := 9) Try.underlying41 Try.underlying5 Try.underlying9 hx1
  have hcb := run_string_at (P := Try.prog) (dst := 9) Try.underlying41 Try.underlying5 Try.underlying9 (HI.out _ hB)
  clear hb5 hx3 hx1
  rcases HD.out with hD | ⟨hD1, hD2, hD3⟩
  · simp only [Prod.mk.injEq] at hD
    obtain ⟨rfl, rfl⟩ := hD
    have cE := Lib.hid (encode_calls [] _ W5 hx2 (fun x hx => by cases hx))
    clear hx2
    go_wp2_with fail
    refine cE.out.mono ?_
    rintro e W6 ⟨⟨z, rfl, hz⟩, hb6⟩
    obtain ⟨Az, cz, rfl, -⟩ := (BytesAt.of_own hz).form
    have hB := hB.trans (hb6.mono hB.size)
    clear hz
    go_wp2
    go_ret
    exact ⟨rfl, hB⟩
  · obtain rfl : de = 0 := hD1
    have cE := encode_calls l _ W5 hx2 ((may_iff l).1 hD2).fits
    have hco : codeI l = b := by unfold codeI; rw [if_pos hD2]; exact hD3
    rw [hD2, if_pos rfl, hco] at cE
    have CE := Lib.hid cE
    clear hx2 hD2 hD3 hco cE
    go_wp2_with fail
    refine CE.out.mono ?_
    rintro e W6 ⟨⟨z, rfl, hz⟩, hb6⟩
    have hz6 := BytesAt.all hz
    obtain ⟨Az, cz, rfl, -⟩ := hz6.form
    have hB := hB.trans (hb6.mono hB.size)
    have hcz := run_string_at (P := Try.prog) (dst := 9) Try.underlying41 Try.underlying5 Try.underlying9 hz6
    have hcb6 := run_string_at (P := Try.prog) (dst := 9) Try.underlying41 Try.underlying5 Try.underlying9 (HI.out _ hB)
    clear hz hz6
    go_wp2
    go_ret
    exact ⟨rfl, hB⟩
end It
end Go.Proofs.Ytloabanhoeaidaa
