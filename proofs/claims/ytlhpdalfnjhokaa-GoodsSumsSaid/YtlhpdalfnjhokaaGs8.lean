/-
  the document's stock: set.
-/
import Derived.Test.YtlhpdalfnjhokaaGs7

set_option linter.unusedVariables false
set_option linter.unusedSimpArgs false
namespace Go.Proofs.Ytlhpdalfnjhokaa
open Go.RowKit Go.Maps
namespace Sk
open It Al Kp
attribute [local go_sem] Oper.semAt_some
def setStep (g : Key) (r : Row) (o : Stk × Bool) (q : Key × Row) : Stk × Bool :=
  let ge := !(Op.bytesLess q.1 g)
  let o1 := if !o.2 && ge then o.1 ++ [(g, r)] else o.1
  (if q.1 = g then o1 else o1 ++ [q], o.2 || ge)
def setP (s : Stk) (g : Key) (r : Row) : Stk × Bool := s.foldl (setStep g r) ([], false)
def setS (s : Stk) (g : Key) (r : Row) : Stk := if (setP s g r).2 then (setP s g r).1 else (setP s g r).1 ++ [(g, r)]
theorem setP_snoc (s : Stk) (g : Key) (r : Row) (q : Key × Row) : setP (s ++ [q]) g r = setStep g r (setP s g r) q := by unfold setP; rw [List.foldl_append]; rfl
def stepB (eq lb : Bool) (out : Stk) (dd : Bool) (p q : Key × Row) : Stk × Bool :=
  (if eq = true then (if (!dd && !lb) = true then out ++ [p] else out) else (if (!dd && !lb) = true then out ++ [p] else out) ++ [q], dd || !lb)
theorem setStep_eq (g gl : Key) (hg : gl = g) (r : Row) (out : Stk) (dd : Bool) (q : Key × Row) : setStep g r (out, dd) q = stepB (q.1 == gl) (Op.bytesLess q.1 gl) out dd (g, r) q := by
  subst hg
  unfold setStep stepB
  dsimp only
  by_cases e : q.1 = gl <;> simp [e]
/-- what set leaves alone -/
def StKept (x : Nat) (w w' : World) : Prop := Kept (fun i => i < w.heap.size ∧ i ≠ x) w w'
theorem row78_info : (Try.prog.info? 78).map (fun i => (i.zero, i.size, i.bytes)) = some (some (.agg #[.string ⟨#[]⟩, .int .i64 0, .int .i64 0, .int .i64 0, .int .i64 0, .int .i64 0, .int .i64 0, .int .i64 0, .int .i64 0, .int .i64 0, .int .i64 0, .int .i64 0]), 12, 104) := by kernel_rfl
theorem rsC_snoc (s : Stk) (p : Key × Row) : rsC (s ++ [p]) = rsC s ++ rsL p := by unfold rsC; rw [List.flatMap_append]; simp
theorem ok_snoc {s : Stk} {p : Key × Row} (h : ∀ q ∈ s, OkP q) (hp : OkP p) : ∀ q ∈ s ++ [p], OkP q := fun q hq => by
  rcases List.mem_append.1 hq with h1 | h1
  · exact h q h1
  · rw [List.mem_singleton.1 h1]; exact hp
set_option maxRecDepth 100000 in
set_option maxHeartbeats 16000000 in
theorem set_calls {w : World} {base x : Nat} {s : Stk} (h : RsAt w base x s) (hbase : base ≤ w.heap.size) (hlen : s.length ≤ 1000000) (g : ByteArray) (hgs : g.size ≤ maxLen) {r : Row} (hr : OkRow r) :
    Calls Try.prog 54 #[.pointer (some ⟨x, 0, none⟩), rsV g r] w fun e w' => e = .returned (.tuple #[]) ∧ RsAt w' base x (setS s g.data.toList r) ∧ StKept x w w' := by
  have hmx := hmx
  obtain ⟨i0, hi0, hz0⟩ := Option.map_eq_some_iff.1 row78_info
  simp only [Prod.mk.injEq] at hz0
  obtain ⟨hz0, hz1, hz2⟩ := hz0
  have HZ := Lib.hid (And.intro hi0 (And.intro hz0 (And.intro hz1 hz2)))
  clear hi0 hz0 hz1 hz2
  have HOK := Lib.hid (show OkP (g.data.toList, r) from ⟨hr, by simpa using hgs⟩)
  obtain ⟨a0, a1, a2, a3, a4, a5, a6, a7, a8, a9, a10, he⟩ := row_eleven hr
  have hRV : rsV g r = .agg #[.string g, .int .i64 a0, .int .i64 a1, .int .i64 a2, .int .i64 a3, .int .i64 a4, .int .i64 a5, .int .i64 a6, .int .i64 a7, .int .i64 a8, .int .i64 a9, .int .i64 a10] := by rw [he]; rfl
  have HL := Lib.hid (show rsL (g.data.toList, r) = [.string g, .int .i64 a0, .int .i64 a1, .int .i64 a2, .int .i64 a3, .int .i64 a4, .int .i64 a5, .int .i64 a6, .int .i64 a7, .int .i64 a8, .int .i64 a9, .int .i64 a10] by rw [he]; rfl)
  rw [hRV]
  clear he hRV hr
  have ha := (Below.refl (w.heap.size + 1) (w.alloc (.cells #[.string g, .int .i64 a0, .int .i64 a1, .int .i64 a2, .int .i64 a3, .int .i64 a4, .int .i64 a5, .int .i64 a6, .int .i64 a7, .int .i64 a8, .int .i64 a9, .int .i64 a10] 78)))
  have hBw := (Below.refl w.heap.size w).alloc (Nat.le_refl _) (.cells #[.string g, .int .i64 a0, .int .i64 a1, .int .i64 a2, .int .i64 a3, .int .i64 a4, .int .i64 a5, .int .i64 a6, .int .i64 a7, .int .i64 a8, .int .i64 a9, .int .i64 a10] 78)
  have hs1 : (w.alloc (.cells #[.string g, .int .i64 a0, .int .i64 a1, .int .i64 a2, .int .i64 a3, .int .i64 a4, .int .i64 a5, .int .i64 a6, .int .i64 a7, .int .i64 a8, .int .i64 a9, .int .i64 a10] 78)).heap.size = w.heap.size + 1 := by simp
  have HB0 := Lib.hid hBw
  have HR0 := Lib.hid (h.same hBw)
  have HO0 := Lib.hid (Ob.new w 78 #[.string g, .int .i64 a0, .int .i64 a1, .int .i64 a2, .int .i64 a3, .int .i64 a4, .int .i64 a5, .int .i64 a6, .int .i64 a7, .int .i64 a8, .int .i64 a9, .int .i64 a10])
  have HLO := Lib.hid h
  clear hBw h
  go_enter Try.func54, Try.ntmps54
  go_upto_region 1 with (fail)
  generalize w.alloc (.cells #[.string g, .int .i64 a0, .int .i64 a1, .int .i64 a2, .int .i64 a3, .int .i64 a4, .int .i64 a5, .int .i64 a6, .int .i64 a7, .int .i64 a8, .int .i64 a9, .int .i64 a10] 78) = w1 at *
  have HS1 := Lib.hid hs1
  obtain ⟨vr, hOx, hRx⟩ := HR0.out.ob
  obtain ⟨A, c, rfl, hc1, hc2⟩ := hRx.form
  unfold maxLen at hc2
  have HOX := Lib.hid hOx
  have HRX := Lib.hid hRx
  clear hOx hRx hs1
  go_wp2
  go_loopw [4, 5, 6] (fun v dn i W => ∃ (k : Nat) (out : Stk) (dd : Bool), k ≤ s.length ∧ i = .int .i64 k ∧ dn = .bool dd ∧ setP (s.take k) g.data.toList r = (out, dd) ∧ out.length ≤ 2 * k ∧ (∀ p ∈ out, OkP p) ∧ W.ownsRow (w.heap.size + 1) 78 12 v out.length (rsC out) ∧ Below (w.heap.size + 1) w1 W) (fun _ _ i _ => s.length - (intOf i).toNat)
  case atStart => exact ⟨0, [], false, by omega, rfl, rfl, rfl, by simp, (fun p hp => by cases hp), World.ownsRow_nil _ _ _ _, ha⟩
  case round =>
    obtain ⟨k, out, dd, hk, rfl, rfl, hP, hol, hok, hown, hB⟩ := hrel
    have HP := Lib.hid hP
    have HK := Lib.hid hok
    have HB := Lib.hid hB
    have hBs : w.heap.size + 1 ≤ wr.heap.size := by have := hB.size; have := HS1.out; omega
    have hx := HOX.out.cell (j := 0) (v := .slice A s.length c) rfl
    have hxw : wr.cell? ⟨x, 0, none⟩ = some (.slice A s.length c) := (hB.cell (p := ⟨x, 0, none⟩) (by have := HOX.out.lt; have := HS1.out; show x < w.heap.size + 1; omega)).trans hx
    have oz := HO0.out.below hB (by omega)
    have z0 := oz.cell (j := 0) (v := .string g) rfl
    clear hx hP hok hB
    by_cases hlt : k < s.length
    · obtain ⟨gb, rfl, -, hgb, hrr⟩ := HRX.out.cellAt hlt
      have HQO := Lib.hid (HRX.out.ok _ (List.getElem_mem hlt))
      have hd : decide ((k : Int) < (s.length : Int)) = true := by simp; omega
      have HPS := Lib.hid (show setP (s.take (k + 1)) g.data.toList r = setStep g.data.toList r (out, dd) s[k] by rw [List.take_succ_eq_append_getElem hlt, setP_snoc, HP.out])
      have hrc := hrr
      have hrr2 : wr.rangeAt gb (k * 12) (rsL s[k]) := fun j v hj => (HB.out.cell (p := ⟨gb, k * 12 + j, none⟩) (by have := HS1.out; show gb < w.heap.size + 1; omega)).trans (hrr j v hj)
      clear hrr
      obtain ⟨q, rr, hq⟩ : ∃ q rr, s[k] = (q, rr) := ⟨_, _, rfl⟩
      rw [hq] at hrr2 HQO HPS hrc
      obtain ⟨b0, b1, b2, b3, b4, b5, b6, b7, b8, b9, b10, he⟩ := row_eleven HQO.out.row
      have he : rr = [b0, b1, b2, b3, b4, b5, b6, b7, b8, b9, b10] := he
      have HQL := Lib.hid (show rsL (q, rr) = [.string ⟨q.toArray⟩, .int .i64 b0, .int .i64 b1, .int .i64 b2, .int .i64 b3, .int .i64 b4, .int .i64 b5, .int .i64 b6, .int .i64 b7, .int .i64 b8, .int .i64 b9, .int .i64 b10] by rw [he]; rfl)
      rw [HQL.out] at hrr2 hrc
      have HRC := Lib.hid hrc
      clear hrc
      have q0 := hrr2 0 _ rfl
      rw [Nat.add_zero] at q0
      have HE := Lib.hid (setStep_eq g.data.toList g.toList (toList_key g) r out dd (q, rr))
      have HPE := Lib.hid (HPS.out.trans HE.out)
      clear he hq HP HPS HE
      obtain ⟨hi0, hz0, hz1, hz2⟩ := HZ.out
      dsimp only at HPE
      generalize hlb : Op.bytesLess q g.toList = lb at HPE
      generalize hne : (q == g.toList) = eq at HPE
      have hne2 : (q != g.toList) = !eq := by rw [← hne]; rfl
      have own1 := hown
      have HB1 := HB
      clear hown HB
      cases dd with
      | true =>
        go_wp2_with fail
        refine Pu.regionW (fun V => V = wr.drew) hmx (by kernel_rfl) (by kernel_rfl) rfl rfl ?_
        iterate 15 (first
          | (refine Pu.Walk.off (by rfl) ?_; simp only [Act.put, List.setIfInBounds_toArray, List.set_cons_succ, List.set_cons_zero])
          | (apply Pu.Walk.on (by rfl)
             · rintro V rfl
               go_wp2_with fail
               refine ⟨rfl, ?_, rfl⟩
               try simp only [Act.put, List.setIfInBounds_toArray, List.set_cons_succ, List.set_cons_zero]
               rfl
             simp only [Act.put, List.setIfInBounds_toArray, List.set_cons_succ, List.set_cons_zero]))
        refine Pu.Walk.nil ?_
        rintro V rfl
        have own2 : wr.drew.ownsRow (w.heap.size + 1) 78 12 _ out.length (rsC out) := own1
        have HB2 := Lib.hid (show Below (w.heap.size + 1) w1 wr.drew from HB1.out.drew)
        clear own1 HB1
        have hBn : w.heap.size + 1 ≤ wr.drew.drew.heap.size := by show _ ≤ wr.drew.heap.size; have := HB2.out.size; have := HS1.out; omega
        have hBm : w.heap.size + 1 ≤ wr.drew.heap.size := hBn
        cases eq with
        | true =>
          go_wp2_with fail
          refine Pu.regionW (fun V => V = wr.drew.drew) hmx (by kernel_rfl) (by kernel_rfl) rfl rfl ?_
          iterate 11 (first
            | (refine Pu.Walk.off (by rfl) ?_; simp only [Act.put, List.setIfInBounds_toArray, List.set_cons_succ, List.set_cons_zero])
            | (apply Pu.Walk.on (by rfl)
               · rintro V rfl
                 go_wp2_with fail
                 refine ⟨rfl, ?_, rfl⟩
                 try simp only [Act.put, List.setIfInBounds_toArray, List.set_cons_succ, List.set_cons_zero]
                 rfl
               simp only [Act.put, List.setIfInBounds_toArray, List.set_cons_succ, List.set_cons_zero]))
          refine Pu.Walk.nil ?_
          rintro V rfl
          have HBd := HB2.out.drew
          have hownd : wr.drew.drew.ownsRow (w.heap.size + 1) 78 12 _ (out).length (rsC (out)) := own2
          go_wp2
          go_roundw
          case rel => exact ⟨k + 1, out, true, by omega, by go_num, rfl, by rw [HPE.out]; rfl, by first | omega | (simp; omega), HK.out, hownd, HBd⟩
          case measure => simp [intOf]; omega
        | false =>
          go_wp2_with fail
          refine Pu.regionW (fun V => V = wr.drew.drew) hmx (by kernel_rfl) (by kernel_rfl) rfl rfl ?_
          iterate 11 (first
            | (refine Pu.Walk.off (by rfl) ?_; simp only [Act.put, List.setIfInBounds_toArray, List.set_cons_succ, List.set_cons_zero])
            | (apply Pu.Walk.on (by rfl)
               · rintro V rfl
                 go_wp2_with fail
                 refine ⟨rfl, ?_, rfl⟩
                 try simp only [Act.put, List.setIfInBounds_toArray, List.set_cons_succ, List.set_cons_zero]
                 rfl
               simp only [Act.put, List.setIfInBounds_toArray, List.set_cons_succ, List.set_cons_zero]))
          refine Pu.Walk.nil ?_
          rintro V rfl
          have HB3 := Lib.hid (show Below (w.heap.size + 1) w1 wr.drew.drew from HB2.out.drew)
          have own3 : wr.drew.drew.ownsRow (w.heap.size + 1) 78 12 _ (out).length (rsC (out)) := own2
          have hol9 : (out).length ≤ 2000002 := by first | omega | (simp; omega)
          replace hrr2 : wr.drew.drew.rangeAt gb (k * 12) [.string ⟨q.toArray⟩, .int .i64 b0, .int .i64 b1, .int .i64 b2, .int .i64 b3, .int .i64 b4, .int .i64 b5, .int .i64 b6, .int .i64 b7, .int .i64 b8, .int .i64 b9, .int .i64 b10] := hrr2
          go_wp2_with (first | (refine wpList_load_mid rfl 78 (.tmp 52) rfl gb (k * 12) rfl [.string ⟨q.toArray⟩, .int .i64 b0, .int .i64 b1, .int .i64 b2, .int .i64 b3, .int .i64 b4, .int .i64 b5, .int .i64 b6, .int .i64 b7, .int .i64 b8, .int .i64 b9, .int .i64 b10] _ hrr2 Try.underlying78 rfl (by kernel_rfl) ?_) | (at_builtin; refine wpList_append_sl _ rfl (.tmp 46) (.tmp 54) _ rfl (w.heap.size + 1) 78 i0 _ 12 104 Try.underlying74 hi0 hz0 hz1 hz2 rfl (by omega) _ _ _ rfl (own3.alloc _) wr.drew.drew.heap.size (wr.drew.drew.heap.size + 1) _ 1 [.string ⟨q.toArray⟩, .int .i64 b0, .int .i64 b1, .int .i64 b2, .int .i64 b3, .int .i64 b4, .int .i64 b5, .int .i64 b6, .int .i64 b7, .int .i64 b8, .int .i64 b9, .int .i64 b10] rfl (Sl.new wr.drew.drew #[.string ⟨q.toArray⟩, .int .i64 b0, .int .i64 b1, .int .i64 b2, .int .i64 b3, .int .i64 b4, .int .i64 b5, .int .i64 b6, .int .i64 b7, .int .i64 b8, .int .i64 b9, .int .i64 b10] 78 (n := 1) rfl (by unfold maxLen; omega)) (by simp [Value.oneCell']) (by unfold maxLen; omega) (by omega) (by simp; omega) ?_; intro vW9 W9 hvW9 hgW9 hatW9))
          have HB4 := Lib.hid (show Below (w.heap.size + 1) w1 W9 from (HB3.out.alloc (by have := HS1.out; have := HB3.out.size; omega) _).grown hgW9 (by have := HS1.out; have := HB3.out.size; simp; omega) (fun g hg => (own3.lt g hg).1))
          have own4 : W9.ownsRow (w.heap.size + 1) 78 12 vW9 (out ++ [(q, rr)]).length (rsC (out ++ [(q, rr)])) := by
            rw [List.length_append, rsC_snoc, HQL.out]
            exact hvW9
          clear hvW9 hgW9 hatW9
          go_roundw
          case rel => exact ⟨k + 1, out ++ [(q, rr)], true, by omega, by go_num, rfl, by rw [HPE.out]; rfl, by first | omega | (simp; omega), ok_snoc (HK.out) HQO.out, own4, HB4.out⟩
          case measure => simp [intOf]; omega
      | false =>
        cases lb with
        | true =>
          go_wp2_with fail
          refine Pu.regionW (fun V => V = wr.drew) hmx (by kernel_rfl) (by kernel_rfl) rfl rfl ?_
          iterate 15 (first
            | (refine Pu.Walk.off (by rfl) ?_; simp only [Act.put, List.setIfInBounds_toArray, List.set_cons_succ, List.set_cons_zero])
            | (apply Pu.Walk.on (by rfl)
               · rintro V rfl
                 go_wp2_with fail
                 refine ⟨rfl, ?_, rfl⟩
                 try simp only [Act.put, List.setIfInBounds_toArray, List.set_cons_succ, List.set_cons_zero]
                 rfl
               simp only [Act.put, List.setIfInBounds_toArray, List.set_cons_succ, List.set_cons_zero]))
          refine Pu.Walk.nil ?_
          rintro V rfl
          have own2 : wr.drew.ownsRow (w.heap.size + 1) 78 12 _ out.length (rsC out) := own1
          have HB2 := Lib.hid (show Below (w.heap.size + 1) w1 wr.drew from HB1.out.drew)
          clear own1 HB1
          have hBn : w.heap.size + 1 ≤ wr.drew.drew.heap.size := by show _ ≤ wr.drew.heap.size; have := HB2.out.size; have := HS1.out; omega
          have hBm : w.heap.size + 1 ≤ wr.drew.heap.size := hBn
          cases eq with
          | true =>
            go_wp2_with fail
            refine Pu.regionW (fun V => V = wr.drew.drew) hmx (by kernel_rfl) (by kernel_rfl) rfl rfl ?_
            iterate 11 (first
              | (refine Pu.Walk.off (by rfl) ?_; simp only [Act.put, List.setIfInBounds_toArray, List.set_cons_succ, List.set_cons_zero])
              | (apply Pu.Walk.on (by rfl)
                 · rintro V rfl
                   go_wp2_with fail
                   refine ⟨rfl, ?_, rfl⟩
                   try simp only [Act.put, List.setIfInBounds_toArray, List.set_cons_succ, List.set_cons_zero]
                   rfl
                 simp only [Act.put, List.setIfInBounds_toArray, List.set_cons_succ, List.set_cons_zero]))
            refine Pu.Walk.nil ?_
            rintro V rfl
            have HBd := HB2.out.drew
            have hownd : wr.drew.drew.ownsRow (w.heap.size + 1) 78 12 _ (out).length (rsC (out)) := own2
            go_wp2
            go_roundw
            case rel => exact ⟨k + 1, out, false, by omega, by go_num, rfl, by rw [HPE.out]; rfl, by first | omega | (simp; omega), HK.out, hownd, HBd⟩
            case measure => simp [intOf]; omega
          | false =>
            go_wp2_with fail
            refine Pu.regionW (fun V => V = wr.drew.drew) hmx (by kernel_rfl) (by kernel_rfl) rfl rfl ?_
            iterate 11 (first
              | (refine Pu.Walk.off (by rfl) ?_; simp only [Act.put, List.setIfInBounds_toArray, List.set_cons_succ, List.set_cons_zero])
              | (apply Pu.Walk.on (by rfl)
                 · rintro V rfl
                   go_wp2_with fail
                   refine ⟨rfl, ?_, rfl⟩
                   try simp only [Act.put, List.setIfInBounds_toArray, List.set_cons_succ, List.set_cons_zero]
                   rfl
                 simp only [Act.put, List.setIfInBounds_toArray, List.set_cons_succ, List.set_cons_zero]))
            refine Pu.Walk.nil ?_
            rintro V rfl
            have HB3 := Lib.hid (show Below (w.heap.size + 1) w1 wr.drew.drew from HB2.out.drew)
            have own3 : wr.drew.drew.ownsRow (w.heap.size + 1) 78 12 _ (out).length (rsC (out)) := own2
            have hol9 : (out).length ≤ 2000002 := by first | omega | (simp; omega)
            replace hrr2 : wr.drew.drew.rangeAt gb (k * 12) [.string ⟨q.toArray⟩, .int .i64 b0, .int .i64 b1, .int .i64 b2, .int .i64 b3, .int .i64 b4, .int .i64 b5, .int .i64 b6, .int .i64 b7, .int .i64 b8, .int .i64 b9, .int .i64 b10] := hrr2
            go_wp2_with (first | (refine wpList_load_mid rfl 78 (.tmp 52) rfl gb (k * 12) rfl [.string ⟨q.toArray⟩, .int .i64 b0, .int .i64 b1, .int .i64 b2, .int .i64 b3, .int .i64 b4, .int .i64 b5, .int .i64 b6, .int .i64 b7, .int .i64 b8, .int .i64 b9, .int .i64 b10] _ hrr2 Try.underlying78 rfl (by kernel_rfl) ?_) | (at_builtin; refine wpList_append_sl _ rfl (.tmp 46) (.tmp 54) _ rfl (w.heap.size + 1) 78 i0 _ 12 104 Try.underlying74 hi0 hz0 hz1 hz2 rfl (by omega) _ _ _ rfl (own3.alloc _) wr.drew.drew.heap.size (wr.drew.drew.heap.size + 1) _ 1 [.string ⟨q.toArray⟩, .int .i64 b0, .int .i64 b1, .int .i64 b2, .int .i64 b3, .int .i64 b4, .int .i64 b5, .int .i64 b6, .int .i64 b7, .int .i64 b8, .int .i64 b9, .int .i64 b10] rfl (Sl.new wr.drew.drew #[.string ⟨q.toArray⟩, .int .i64 b0, .int .i64 b1, .int .i64 b2, .int .i64 b3, .int .i64 b4, .int .i64 b5, .int .i64 b6, .int .i64 b7, .int .i64 b8, .int .i64 b9, .int .i64 b10] 78 (n := 1) rfl (by unfold maxLen; omega)) (by simp [Value.oneCell']) (by unfold maxLen; omega) (by omega) (by simp; omega) ?_; intro vW9 W9 hvW9 hgW9 hatW9))
            have HB4 := Lib.hid (show Below (w.heap.size + 1) w1 W9 from (HB3.out.alloc (by have := HS1.out; have := HB3.out.size; omega) _).grown hgW9 (by have := HS1.out; have := HB3.out.size; simp; omega) (fun g hg => (own3.lt g hg).1))
            have own4 : W9.ownsRow (w.heap.size + 1) 78 12 vW9 (out ++ [(q, rr)]).length (rsC (out ++ [(q, rr)])) := by
              rw [List.length_append, rsC_snoc, HQL.out]
              exact hvW9
            clear hvW9 hgW9 hatW9
            go_roundw
            case rel => exact ⟨k + 1, out ++ [(q, rr)], false, by omega, by go_num, rfl, by rw [HPE.out]; rfl, by first | omega | (simp; omega), ok_snoc (HK.out) HQO.out, own4, HB4.out⟩
            case measure => simp [intOf]; omega
        | false =>
          go_wp2_with fail
          refine Pu.regionW (fun V => V = wr.drew) hmx (by kernel_rfl) (by kernel_rfl) rfl rfl ?_
          iterate 15 (first
            | (refine Pu.Walk.off (by rfl) ?_; simp only [Act.put, List.setIfInBounds_toArray, List.set_cons_succ, List.set_cons_zero])
            | (apply Pu.Walk.on (by rfl)
               · rintro V rfl
                 go_wp2_with fail
                 refine ⟨rfl, ?_, rfl⟩
                 try simp only [Act.put, List.setIfInBounds_toArray, List.set_cons_succ, List.set_cons_zero]
                 rfl
               simp only [Act.put, List.setIfInBounds_toArray, List.set_cons_succ, List.set_cons_zero]))
          refine Pu.Walk.nil ?_
          rintro V rfl
          have own2 : wr.drew.ownsRow (w.heap.size + 1) 78 12 _ out.length (rsC out) := own1
          have HB2 := Lib.hid (show Below (w.heap.size + 1) w1 wr.drew from HB1.out.drew)
          replace oz : Ob wr.drew w.heap.size 78 #[.string g, .int .i64 a0, .int .i64 a1, .int .i64 a2, .int .i64 a3, .int .i64 a4, .int .i64 a5, .int .i64 a6, .int .i64 a7, .int .i64 a8, .int .i64 a9, .int .i64 a10] := oz
          have hBd : w.heap.size + 1 ≤ wr.drew.heap.size := hBs
          clear own1 HB1
          go_upto_region 9 with (first | (refine wpList_load_ob rfl 78 (.tmp 3) rfl rfl _ oz Try.underlying78 rfl (by kernel_rfl) ?_) | (at_builtin; refine wpList_append_sl _ rfl (.tmp 31) (.tmp 33) _ rfl (w.heap.size + 1) 78 i0 _ 12 104 Try.underlying74 hi0 hz0 hz1 hz2 rfl (by omega) _ _ _ rfl (own2.alloc _) wr.drew.heap.size (wr.drew.heap.size + 1) _ 1 [.string g, .int .i64 a0, .int .i64 a1, .int .i64 a2, .int .i64 a3, .int .i64 a4, .int .i64 a5, .int .i64 a6, .int .i64 a7, .int .i64 a8, .int .i64 a9, .int .i64 a10] rfl (Sl.new wr.drew #[.string g, .int .i64 a0, .int .i64 a1, .int .i64 a2, .int .i64 a3, .int .i64 a4, .int .i64 a5, .int .i64 a6, .int .i64 a7, .int .i64 a8, .int .i64 a9, .int .i64 a10] 78 (n := 1) rfl (by unfold maxLen; omega)) (by simp [Value.oneCell']) (by unfold maxLen; omega) (by omega) (by simp; omega) ?_; intro vW5 W5 hvW5 hgW5 hatW5))
          have HB3 := Lib.hid (show Below (w.heap.size + 1) w1 W5 from (HB2.out.alloc (by have := HS1.out; have := HB2.out.size; omega) _).grown hgW5 (by have := HS1.out; have := HB2.out.size; simp; omega) (fun g hg => (own2.lt g hg).1))
          have own3 : W5.ownsRow (w.heap.size + 1) 78 12 vW5 (out ++ [(g.data.toList, r)]).length (rsC (out ++ [(g.data.toList, r)])) := by
            rw [List.length_append, rsC_snoc, HL.out]
            exact hvW5
          clear hvW5 hgW5 hatW5
          replace hxw := (HB3.out.cell (p := ⟨x, 0, none⟩) (by have := HOX.out.lt; have := HS1.out; show x < w.heap.size + 1; omega)).trans (HOX.out.cell (j := 0) (v := .slice (some ⟨gb, 0, none⟩) s.length c) rfl)
          replace z0 := (HO0.out.below HB3.out (by omega)).cell (j := 0) (v := .string g) rfl
          replace hrr2 : W5.rangeAt gb (k * 12) [.string ⟨q.toArray⟩, .int .i64 b0, .int .i64 b1, .int .i64 b2, .int .i64 b3, .int .i64 b4, .int .i64 b5, .int .i64 b6, .int .i64 b7, .int .i64 b8, .int .i64 b9, .int .i64 b10] := fun j v hj => (HB3.out.cell (p := ⟨gb, k * 12 + j, none⟩) (by have := HS1.out; show gb < w.heap.size + 1; omega)).trans ((HRC.out j v hj))
          replace q0 := hrr2 0 _ rfl
          rw [Nat.add_zero] at q0
          clear oz own2 HB2
          have hBn : w.heap.size + 1 ≤ W5.drew.heap.size := by show _ ≤ W5.heap.size; have := HB3.out.size; have := HS1.out; omega
          have hBm : w.heap.size + 1 ≤ W5.heap.size := hBn
          cases eq with
          | true =>
            go_wp2_with fail
            refine Pu.regionW (fun V => V = W5.drew) hmx (by kernel_rfl) (by kernel_rfl) rfl rfl ?_
            iterate 11 (first
              | (refine Pu.Walk.off (by rfl) ?_; simp only [Act.put, List.setIfInBounds_toArray, List.set_cons_succ, List.set_cons_zero])
              | (apply Pu.Walk.on (by rfl)
                 · rintro V rfl
                   go_wp2_with fail
                   refine ⟨rfl, ?_, rfl⟩
                   try simp only [Act.put, List.setIfInBounds_toArray, List.set_cons_succ, List.set_cons_zero]
                   rfl
                 simp only [Act.put, List.setIfInBounds_toArray, List.set_cons_succ, List.set_cons_zero]))
            refine Pu.Walk.nil ?_
            rintro V rfl
            have HBd := HB3.out.drew
            have hownd : W5.drew.ownsRow (w.heap.size + 1) 78 12 _ (out ++ [(g.data.toList, r)]).length (rsC (out ++ [(g.data.toList, r)])) := own3
            go_wp2
            go_roundw
            case rel => exact ⟨k + 1, out ++ [(g.data.toList, r)], true, by omega, by go_num, rfl, by rw [HPE.out]; rfl, by first | omega | (simp; omega), ok_snoc HK.out HOK.out, hownd, HBd⟩
            case measure => simp [intOf]; omega
          | false =>
            go_wp2_with fail
            refine Pu.regionW (fun V => V = W5.drew) hmx (by kernel_rfl) (by kernel_rfl) rfl rfl ?_
            iterate 11 (first
              | (refine Pu.Walk.off (by rfl) ?_; simp only [Act.put, List.setIfInBounds_toArray, List.set_cons_succ, List.set_cons_zero])
              | (apply Pu.Walk.on (by rfl)
                 · rintro V rfl
                   go_wp2_with fail
                   refine ⟨rfl, ?_, rfl⟩
                   try simp only [Act.put, List.setIfInBounds_toArray, List.set_cons_succ, List.set_cons_zero]
                   rfl
                 simp only [Act.put, List.setIfInBounds_toArray, List.set_cons_succ, List.set_cons_zero]))
            refine Pu.Walk.nil ?_
            rintro V rfl
            have HB4 := Lib.hid (show Below (w.heap.size + 1) w1 W5.drew from HB3.out.drew)
            have own4 : W5.drew.ownsRow (w.heap.size + 1) 78 12 _ (out ++ [(g.data.toList, r)]).length (rsC (out ++ [(g.data.toList, r)])) := own3
            have hol9 : (out ++ [(g.data.toList, r)]).length ≤ 2000002 := by first | omega | (simp; omega)
            replace hrr2 : W5.drew.rangeAt gb (k * 12) [.string ⟨q.toArray⟩, .int .i64 b0, .int .i64 b1, .int .i64 b2, .int .i64 b3, .int .i64 b4, .int .i64 b5, .int .i64 b6, .int .i64 b7, .int .i64 b8, .int .i64 b9, .int .i64 b10] := hrr2
            go_wp2_with (first | (refine wpList_load_mid rfl 78 (.tmp 52) rfl gb (k * 12) rfl [.string ⟨q.toArray⟩, .int .i64 b0, .int .i64 b1, .int .i64 b2, .int .i64 b3, .int .i64 b4, .int .i64 b5, .int .i64 b6, .int .i64 b7, .int .i64 b8, .int .i64 b9, .int .i64 b10] _ hrr2 Try.underlying78 rfl (by kernel_rfl) ?_) | (at_builtin; refine wpList_append_sl _ rfl (.tmp 46) (.tmp 54) _ rfl (w.heap.size + 1) 78 i0 _ 12 104 Try.underlying74 hi0 hz0 hz1 hz2 rfl (by omega) _ _ _ rfl (own4.alloc _) W5.drew.heap.size (W5.drew.heap.size + 1) _ 1 [.string ⟨q.toArray⟩, .int .i64 b0, .int .i64 b1, .int .i64 b2, .int .i64 b3, .int .i64 b4, .int .i64 b5, .int .i64 b6, .int .i64 b7, .int .i64 b8, .int .i64 b9, .int .i64 b10] rfl (Sl.new W5.drew #[.string ⟨q.toArray⟩, .int .i64 b0, .int .i64 b1, .int .i64 b2, .int .i64 b3, .int .i64 b4, .int .i64 b5, .int .i64 b6, .int .i64 b7, .int .i64 b8, .int .i64 b9, .int .i64 b10] 78 (n := 1) rfl (by unfold maxLen; omega)) (by simp [Value.oneCell']) (by unfold maxLen; omega) (by omega) (by simp; omega) ?_; intro vW9 W9 hvW9 hgW9 hatW9))
            have HB5 := Lib.hid (show Below (w.heap.size + 1) w1 W9 from (HB4.out.alloc (by have := HS1.out; have := HB4.out.size; omega) _).grown hgW9 (by have := HS1.out; have := HB4.out.size; simp; omega) (fun g hg => (own4.lt g hg).1))
            have own5 : W9.ownsRow (w.heap.size + 1) 78 12 vW9 (out ++ [(g.data.toList, r)] ++ [(q, rr)]).length (rsC (out ++ [(g.data.toList, r)] ++ [(q, rr)])) := by
              rw [List.length_append, rsC_snoc, HQL.out]
              exact hvW9
            clear hvW9 hgW9 hatW9
            go_roundw
            case rel => exact ⟨k + 1, out ++ [(g.data.toList, r)] ++ [(q, rr)], true, by omega, by go_num, rfl, by rw [HPE.out]; rfl, by first | omega | (simp; omega), ok_snoc (ok_snoc HK.out HOK.out) HQO.out, own5, HB5.out⟩
            case measure => simp [intOf]; omega
    · obtain rfl : k = s.length := by omega
      have HPF := Lib.hid (by have h := HP.out; rw [List.take_length] at h; exact h)
      obtain ⟨hi0, hz0, hz1, hz2⟩ := HZ.out
      have own1 := hown
      have HB1 := HB
      have fx := HOX.out.frozen 0
      have fxw : wr.frozen? ⟨x, 0, none⟩ = false := ((HOX.out.below HB.out (by have := HOX.out.lt; have := HS1.out; omega)).frozen 0)
      clear hown HB HP z0 fx
      cases dd with
      | true =>
        have HSS := Lib.hid (show setS s g.data.toList r = out by unfold setS; rw [HPF.out]; rfl)
        obtain ⟨Ao, co, rfl, -⟩ := (Sl.of_own own1).at_
        go_wp2
        go_end0
        have hxl : x < w.heap.size := by obtain ⟨v0, h1, -⟩ := HLO.out.ob; exact h1.lt
        have obx := HOX.out.below HB1.out (by omega)
        refine ⟨rfl, ⟨⟨_, obx.set 0 _, ?_⟩, HLO.out.lo⟩, ?_⟩
        · rw [HSS.out]
          refine RowsAt.kept ⟨row_mono own1 (by omega), HK.out⟩ (grownBy_set wr x 0 _) (fun r e => by cases e; exact ⟨_, _, obx, by decide⟩)
        · have hk1 : Kept (fun i => i < w.heap.size ∧ i ≠ x) w wr := (Kept.of_below HB0.out (fun i hi => hi.1)).trans (Kept.of_below HB1.out (fun i hi => by omega))
          exact hk1.trans (Kept.of_grown (grownBy_set wr x 0 _) (fun i hi => ⟨by have := hk1.size; omega, fun e => hi.2 (Option.some.inj e)⟩))
      | false =>
        have HSS := Lib.hid (show setS s g.data.toList r = out ++ [(g.data.toList, r)] by unfold setS; rw [HPF.out]; rfl)
        go_upto_region 13 with (first | (refine wpList_load_ob rfl 78 (.tmp 3) rfl rfl _ oz Try.underlying78 rfl (by kernel_rfl) ?_) | (at_builtin; refine wpList_append_sl _ rfl (.tmp 58) (.tmp 60) _ rfl (w.heap.size + 1) 78 i0 _ 12 104 Try.underlying74 hi0 hz0 hz1 hz2 rfl (by omega) _ _ _ rfl (own1.alloc _) wr.heap.size (wr.heap.size + 1) _ 1 [.string g, .int .i64 a0, .int .i64 a1, .int .i64 a2, .int .i64 a3, .int .i64 a4, .int .i64 a5, .int .i64 a6, .int .i64 a7, .int .i64 a8, .int .i64 a9, .int .i64 a10] rfl (Sl.new wr #[.string g, .int .i64 a0, .int .i64 a1, .int .i64 a2, .int .i64 a3, .int .i64 a4, .int .i64 a5, .int .i64 a6, .int .i64 a7, .int .i64 a8, .int .i64 a9, .int .i64 a10] 78 (n := 1) rfl (by unfold maxLen; omega)) (by simp [Value.oneCell']) (by unfold maxLen; omega) (by omega) (by simp; omega) ?_; intro vW5 W5 hvW5 hgW5 hatW5))
        have HB2 := Lib.hid (show Below (w.heap.size + 1) w1 W5 from (HB1.out.alloc (by have := HS1.out; have := HB1.out.size; omega) _).grown hgW5 (by have := HS1.out; have := HB1.out.size; simp; omega) (fun g hg => (own1.lt g hg).1))
        have own2 : W5.ownsRow (w.heap.size + 1) 78 12 vW5 (out ++ [(g.data.toList, r)]).length (rsC (out ++ [(g.data.toList, r)])) := by
          rw [List.length_append, rsC_snoc, HL.out]
          exact hvW5
        clear hvW5 hgW5 hatW5
        have hxw5 := (HB2.out.cell (p := ⟨x, 0, none⟩) (by have := HOX.out.lt; have := HS1.out; show x < w.heap.size + 1; omega)).trans (HOX.out.cell (j := 0) (v := .slice A s.length c) rfl)
        have fxw5 : W5.frozen? ⟨x, 0, none⟩ = false := ((HOX.out.below HB2.out (by have := HOX.out.lt; have := HS1.out; omega)).frozen 0)
        obtain ⟨Ao, co, rfl, -⟩ := (Sl.of_own own2).at_
        clear hxw fxw
        go_wp2
        have hle : (out ++ [(g.data.toList, r)]).length = out.length + 1 := by simp
        have own3 : W5.ownsRow (w.heap.size + 1) 78 12 (.slice Ao (out.length + 1) co) (out ++ [(g.data.toList, r)]).length (rsC (out ++ [(g.data.toList, r)])) := by rw [← hle]; exact own2
        go_end0
        have hxl : x < w.heap.size := by obtain ⟨v0, h1, -⟩ := HLO.out.ob; exact h1.lt
        have obx := HOX.out.below HB2.out (by omega)
        refine ⟨rfl, ⟨⟨_, obx.set 0 _, ?_⟩, HLO.out.lo⟩, ?_⟩
        · rw [HSS.out]
          refine RowsAt.kept ⟨row_mono own3 (by omega), ok_snoc HK.out HOK.out⟩ (grownBy_set W5 x 0 _) (fun r e => by cases e; exact ⟨_, _, obx, by decide⟩)
        · have hk1 : Kept (fun i => i < w.heap.size ∧ i ≠ x) w W5 := (Kept.of_below HB0.out (fun i hi => hi.1)).trans (Kept.of_below HB2.out (fun i hi => by omega))
          exact hk1.trans (Kept.of_grown (grownBy_set W5 x 0 _) (fun i hi => ⟨by have := hk1.size; omega, fun e => hi.2 (Option.some.inj e)⟩))
end Sk
end Go.Proofs.Ytlhpdalfnjhokaa
