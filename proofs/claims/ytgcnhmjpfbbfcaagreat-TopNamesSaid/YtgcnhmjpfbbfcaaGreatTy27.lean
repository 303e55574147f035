/-
  part of the proof of TopNames.
-/
import Derived.Test.YtgcnhmjpfbbfcaaGreatTy26
set_option linter.unusedVariables false
set_option linter.unusedSimpArgs false
set_option maxRecDepth 100000
set_option maxHeartbeats 8000000
namespace Go.Proofs.YtgcnhmjpfbbfcaaGreat
namespace Tp
section
open Go.RowKit Go.Maps
open Ce
theorem run_clear_one {P : Program} (w : World) (t e ty : TypeId) (z : Value) (cs : List Value) (ht : P.underlying t = some (.slice e)) (hv : ∀ w, (zeroValue e).run P w = .ok z w) (hz : z.cells = cs.toArray) (h1 : ∀ v ∈ cs, v.oneCell' = true) (b o c : Nat)
   (hc : ∀ j, j < cs.length → (w.cell? ⟨b, o + j, none⟩).isSome = true) (hf : ∀ j, j < cs.length → w.frozen? ⟨b, o + j, none⟩ = false) :
   (Builtin.clear_ #[t] ty #[.slice (some ⟨b, o, none⟩) 1 c]).run P w = .ok (.tuple #[]) (w.setCells b o cs) := by
 have hzc : (Builtin.zeroCells z.cells 1).toList = cs := by
   rw [hz]; simp only [Builtin.zeroCells, Nat.one_mul, List.size_toArray]; apply List.ext_getElem
   · simp
   · intro i h1 h2
     have h3 : i < cs.length := h2; simp [Nat.mod_eq_of_lt h3, getElem!_pos, h3]
 have hst := run_storeCells_cells (P := P) b o cs 0 w (by simpa using hc) (by simpa using hf) h1; simp only [Nat.add_zero] at hst; simp [Builtin.clear_, run_underlying ht, hv, hzc, hst]
section
variable {w : World} {r : List As} {e : TypeId} {size n : Nat} {v : Value} {xs : List Value}
theorem St.rowOb (h : St (RowA e size v (n + 1) xs :: r) w) : ∃ g cap rest, v = .slice (some ⟨g, 0, none⟩) (n + 1) cap ∧ n + 1 ≤ cap ∧ cap ≤ maxLen ∧ xs.length = (n + 1) * size ∧ xs.length + rest.length = cap * size ∧ St (ObA g e (xs ++ rest).toArray :: r) w := by
 obtain ⟨A, hA, hc⟩ := h.cut; obtain ⟨hl, hh⟩ := hA.1; rcases hh with q | ⟨g, cap, cur, rfl, q2, q3, q4, q5, q6, q7⟩
 · exact absurd q.2 (by omega)
 · refine ⟨g, cap, cur.toList.drop ((n + 1) * size), rfl, q4, q5, hl, ?_, ?_⟩
   · rw [hl, List.length_drop, Array.length_toList, q6]
     have : (n + 1) * size ≤ cap * size := Nat.mul_le_mul_right _ q4; omega
   · refine h.turn fun B hB => ⟨?_, fun i => (hB.2 i).trans ?_⟩
     · rw [← q7, List.take_append_drop]
       exact q3
     · constructor
       · intro e; cases e; rfl
       · rintro rfl; rfl
theorem St.obRow {g cap : Nat} {rest : List Value} (h : St (ObA g e (xs ++ rest).toArray :: r) w) (hx : xs.length = n * size) (hn : n ≤ cap) (hc : cap ≤ maxLen) (hl : xs.length + rest.length = cap * size) : St (RowA e size (.slice (some ⟨g, 0, none⟩) n cap) n xs :: r) w :=
 h.turn fun A hA => ⟨⟨hx, .inr ⟨g, cap, _, rfl, Nat.zero_le _, hA.1, hn, hc, by simpa using hl, by rw [← hx]; simp⟩⟩, fun i => (hA.2 i).trans ⟨fun e => by rw [e]; rfl, fun e => by cases e; rfl⟩⟩
end
theorem on1_calls {bx : Nat} {sq tr du ack : Int} {A : Option Addr} {n c : Nat} {w : World} (h : w.cell? ⟨bx, 1, none⟩ = some (vI ack)) (hb : bx < w.heap.size) :
   Calls Tryz.prog 236 #[.agg #[vI sq, .slice A n c, vI tr, vI du], ptr bx] w fun e w' => e = .returned (.bool (decide (sq ≤ ack))) ∧ Below w.heap.size w w' := by
 have o := Ob.new w 317 #[vI sq, .slice A n c, vI tr, vI du]; have hal := (Below.refl w.heap.size w).alloc (Nat.le_refl _) (.cells #[vI sq, .slice A n c, vI tr, vI du] 317); have g1 := (hal.cell (p := ⟨bx, 1, none⟩) hb).trans h; have q0 := o.k 0 rfl; clear o h
 go_enter Tryz.func236, Tryz.ntmps236
 go_wp2; go_ret; exact ⟨rfl, hal⟩
abbrev onF (bx : Nat) : Value := .func (.func 236) #[] #[ptr bx]
theorem lindex_none {A : Option Addr} {c bx : Nat} (w : World) : Calls Tryz.prog 300 #[.slice A 0 c, onF bx] w fun e w' => e = .returned (vI (-1)) ∧ w = w' := by
 go_enter Tryz.func300, Tryz.ntmps300
 go_wp2
 go_loop [8] (fun i => i = vO) (fun _ => 1)
 case atStart => rfl
 case round =>
   subst hrel; go_wp2; go_ret; exact ⟨rfl, rfl⟩
theorem lindex_first {g n c bx : Nat} {sq tr du ack : Int} {A : Option Addr} {an ac : Nat} {w : World} (hs : sq ≤ ack) (h : w.cell? ⟨bx, 1, none⟩ = some (vI ack)) (hb : bx < w.heap.size)
   (q0 : w.cell? ⟨g, 0, none⟩ = some (vI sq)) (q1 : w.cell? ⟨g, 1, none⟩ = some (.slice A an ac)) (q2 : w.cell? ⟨g, 2, none⟩ = some (vI tr)) (q3 : w.cell? ⟨g, 3, none⟩ = some (vI du)) :
   Calls Tryz.prog 300 #[.slice (some ⟨g, 0, none⟩) (n + 1) c, onF bx] w fun e w' => e = .returned vO ∧ Below w.heap.size w w' := by
 have cO := hdd (on1_calls (sq := sq) (tr := tr) (du := du) (A := A) (n := an) (c := ac) h hb); rw [show decide (sq ≤ ack) = true by simpa using hs] at cO; clear h hb
 go_enter Tryz.func300, Tryz.ntmps300
 go_wp2; refine wp_loop_rounds 1 ?_; rw [rounds_succ]; go_wp2_with fail; refine (cO.out).mono ?_; rintro e W ⟨rfl, hB⟩; go_wp2; go_ret; exact ⟨rfl, hB⟩
abbrev itV (sq : Int) (A : Option Addr) (n c : Nat) (tr du : Int) : List Value := [vI sq, .slice A n c, vI tr, vI du]
theorem zero_item (w : World) : (zeroValue 317).run Tryz.prog w = .ok (.agg #[vO, vN, vO, vO]) w := by kernel_rfl
theorem ldel_none {A : Option Addr} {c bx : Nat} (w : World) : Calls Tryz.prog 235 #[.slice A 0 c, onF bx] w fun e w' => e = .returned (.slice A 0 c) ∧ w = w' := by
 go_enter Tryz.func235, Tryz.ntmps235
 go_wp2_with fail; refine (lindex_none _).mono ?_; rintro e W ⟨rfl, rfl⟩; go_wp2; go_ret; exact ⟨rfl, rfl⟩
theorem ldel_one {bx : Nat} {sq tr du ack a0 : Int} {A : Option Addr} {n c : Nat} {v pv : Value} {r : List As} {w : World} (hs : sq ≤ ack) (h : St (RowA 317 4 v 1 (itV sq A n c tr du) :: ObA bx 233 #[vI a0, vI ack, pv] :: r) w) :
   Calls Tryz.prog 235 #[v, onF bx] w fun e w' => ∃ v', e = .returned v' ∧ St (RowA 317 4 v' 0 [] :: ObA bx 233 #[vI a0, vI ack, pv] :: r) w' := by
 obtain ⟨g, cap, rest, rfl, hc1, hc2, -, hl, s⟩ := h.rowOb; obtain ⟨cap, rfl⟩ : ∃ k, cap = k + 1 := ⟨cap - 1, by omega⟩; have oB := s.ob (b := bx) 1 rfl; have oG := s.ob (b := g) 0 rfl; have cI := hdd (lindex_first (g := g) (n := 0) (c := cap + 1) (bx := bx) (an := n) (ac := c) hs (oB.k 1 rfl) oB.lt (oG.k 0 rfl) (oG.k 1 rfl) (oG.k 2 rfl) (oG.k 3 rfl)); have HS := hdd s; clear h oB oG s
 go_enter Tryz.func235, Tryz.ntmps235
 go_wp2_with fail; refine (cI.out).mono ?_; rintro e W ⟨rfl, hB⟩; have s1 := HS.out.same hB; have oG := s1.ob (b := g) 0 rfl
 have hcl : ∀ ty k, (Builtin.clear_ #[198] ty #[.slice (some ⟨g, 0, none⟩) 1 k]).run Tryz.prog W = .ok (.tuple #[]) (W.setCells g 0 [vO, vN, vO, vO]) := fun ty k =>
   run_clear_one W _ _ ty _ [vO, vN, vO, vO] Tryz.underlying198 zero_item rfl (by simp [Value.oneCell']) g 0 k (fun j hj => oG.there (o := 0) (n := 4) (by simp) j hj |>.1) (fun j hj => oG.frozen _)
 have s2 := s1.seg [vO, vN, vO, vO] 0; have s3 : St (RowA 317 4 (.slice (some ⟨g, 0, none⟩) 0 (cap + 1)) 0 [] :: _) _ := St.obRow (xs := []) (rest := vO :: vN :: vO :: vO :: rest) s2 rfl (by omega) hc2 (by simp only [List.length_cons, List.length_nil] at hl ⊢; omega); clear s1 s2 oG cI; go_wp2; refine wp_loop_rounds 1 ?_; rw [rounds_succ]; go_wp2; go_ret; exact ⟨_, rfl, s3⟩
theorem ldel_first {bx : Nat} {sq tr du sq2 tr2 du2 ack a0 : Int} {A A2 : Option Addr} {n c n2 c2 : Nat} {v pv : Value} {r : List As} {w : World} (hs : sq ≤ ack) (hs2 : ¬ sq2 ≤ ack) (h : St (RowA 317 4 v 2 (itV sq A n c tr du ++ itV sq2 A2 n2 c2 tr2 du2) :: ObA bx 233 #[vI a0, vI ack, pv] :: r) w) :
   Calls Tryz.prog 235 #[v, onF bx] w fun e w' => ∃ v', e = .returned v' ∧ St (RowA 317 4 v' 1 (itV sq2 A2 n2 c2 tr2 du2) :: ObA bx 233 #[vI a0, vI ack, pv] :: r) w' := by
 obtain ⟨g, cap, rest, rfl, hc1, hc2, -, hl, s⟩ := h.rowOb; obtain ⟨cap, rfl⟩ : ∃ k, cap = k + 2 := ⟨cap - 2, by omega⟩; have oB := s.ob (b := bx) 1 rfl; have oG := s.ob (b := g) 0 rfl; have cI := hdd (lindex_first (g := g) (n := 1) (c := cap + 2) (bx := bx) (an := n) (ac := c) hs (oB.k 1 rfl) oB.lt (oG.k 0 rfl) (oG.k 1 rfl) (oG.k 2 rfl) (oG.k 3 rfl)); have HS := hdd s; clear h oB oG s
 go_enter Tryz.func235, Tryz.ntmps235
 go_wp2_with fail; refine (cI.out).mono ?_; rintro e W ⟨rfl, hB⟩; have s1 := (HS.out.same hB).obNew 317 #[vI sq2, .slice A2 n2 c2, vI tr2, vI du2]; have oG0 := (HS.out.same hB).ob (b := g) 0 rfl; have ⟨p0, p1, p2, p3, p4, p5, p6, p7⟩ := oG0.k8 rfl rfl rfl rfl rfl rfl rfl rfl; have oG := s1.ob (b := g) 1 rfl; have oB := s1.ob (b := bx) 2 rfl; have oN := s1.ob (b := W.heap.size) 0 rfl; have cO := hdd (on1_calls (bx := bx) (sq := sq2) (tr := tr2) (du := du2) (A := A2) (n := n2) (c := c2) (oB.k 1 rfl) oB.lt); rw [show decide (sq2 ≤ ack) = false by simpa using hs2] at cO; have HS1 := hdd s1; clear s1 oG oB oG0 HS cI; go_wp2; refine wp_loop_rounds 2 ?_; rw [rounds_succ]; go_wp2_with fail; refine (cO.out).mono ?_; rintro e W2 ⟨rfl, hB2⟩; have s3 := HS1.out.same hB2; have oN := s3.ob (b := W.heap.size) 0 rfl; have oG := s3.ob (b := g) 1 rfl; have ⟨nn0, nn1, nn2, nn3⟩ := oN.k4 rfl rfl rfl rfl; have f0 := oG.frozen 0; have f1 := oG.frozen 1; have f2 := oG.frozen 2; have f3 := oG.frozen 3; have f4 := oG.frozen 4; have f5 := oG.frozen 5; have f6 := oG.frozen 6; have f7 := oG.frozen 7; have g0 : W2.cell? ⟨g, 0, none⟩ = some (vI sq) := oG.k 0 rfl; have g1 : W2.cell? ⟨g, 1, none⟩ = some (.slice A n c) := oG.k 1 rfl; have g2 : W2.cell? ⟨g, 2, none⟩ = some (vI tr) := oG.k 2 rfl; have g3 : W2.cell? ⟨g, 3, none⟩ = some (vI du) := oG.k 3 rfl; have s4 : St (ObA g 317 (itV sq2 A2 n2 c2 tr2 du2 ++ (itV sq2 A2 n2 c2 tr2 du2 ++ rest)).toArray :: _) _ := ((((s3.front 1 rfl).set 0 (vI sq2)).set 1 (.slice A2 n2 c2)).set 2 (vI tr2)).set 3 (vI du2)
 clear cO hB2 HS1 oG oN hB p0 p1 p2 p3 p4 p5 p6 p7 s3; go_wp2; rw [rounds_succ]; generalize ((((W2.setCell ⟨g, 0, none⟩ (vI sq2)).setCell ⟨g, 1, none⟩ (.slice A2 n2 c2)).setCell ⟨g, 2, none⟩ (vI tr2)).setCell ⟨g, 3, none⟩ (vI du2)) = W4 at *; have oG := s4.ob (b := g) 0 rfl
 have hcl : ∀ ty k, (Builtin.clear_ #[198] ty #[.slice (some ⟨g, 4, none⟩) 1 k]).run Tryz.prog W4 = .ok (.tuple #[]) (W4.setCells g 4 [vO, vN, vO, vO]) := fun ty k =>
   run_clear_one W4 _ _ ty _ [vO, vN, vO, vO] Tryz.underlying198 zero_item rfl (by simp [Value.oneCell']) g 4 k (fun j hj => oG.there (o := 4) (n := 4) (by simp) j hj |>.1) (fun j hj => oG.frozen _)
 have s5 := s4.seg [vO, vN, vO, vO] 4; have s6 : St (RowA 317 4 (.slice (some ⟨g, 0, none⟩) 1 (cap + 2)) 1 (itV sq2 A2 n2 c2 tr2 du2) :: _) _ := St.obRow (xs := itV sq2 A2 n2 c2 tr2 du2) (rest := vO :: vN :: vO :: vO :: rest) s5 rfl (by omega) hc2 (by simp only [List.length_cons, List.length_nil, List.length_append] at hl ⊢; omega); clear s5 s4 oG; have s7 := ((s6).take [1, 0, 0]); simp only [takeOut, zzD, zzE, zzF, zzG, zzH, zzI] at s7; replace s7 := s7.drop; go_wp2; go_ret; exact ⟨_, rfl, s7⟩
inductive LDel (ack : Int) : List LItem → List LItem → Prop
 | none : LDel ack [] []
 | one {sq tr du : Int} {A : Option Addr} {n c : Nat} (h : sq ≤ ack) : LDel ack [(sq, .slice A n c, tr, du)] []
 | first {sq tr du sq2 tr2 du2 : Int} {A A2 : Option Addr} {n c n2 c2 : Nat} (h : sq ≤ ack) (h2 : ¬ sq2 ≤ ack) : LDel ack [(sq, .slice A n c, tr, du), (sq2, .slice A2 n2 c2, tr2, du2)] [(sq2, .slice A2 n2 c2, tr2, du2)]
theorem ldel_calls {bx : Nat} {ack a0 : Int} {v pv : Value} {its its' : List LItem} {r : List As} {w : World} (hd : LDel ack its its') (h : St (RowA 317 4 v its.length (its.flatMap litC) :: ObA bx 233 #[vI a0, vI ack, pv] :: r) w) :
   Calls Tryz.prog 235 #[v, onF bx] w fun e w' => ∃ v', e = .returned v' ∧ St (RowA 317 4 v' its'.length (its'.flatMap litC) :: ObA bx 233 #[vI a0, vI ack, pv] :: r) w' := by
 cases hd with
 | none =>
   obtain ⟨A, c, rfl, -⟩ := (Sl.of_own (h.own 0 rfl)).at_; refine (ldel_none w).mono ?_; rintro e w' ⟨rfl, rfl⟩; exact ⟨_, rfl, h⟩
 | one hs => exact ldel_one hs h
 | first hs hs2 => exact ldel_first hs hs2 h
theorem on_new {e : Nat} {its its' : List LItem} {sent mark ack : Int} {bv : Value} {l : List UInt8} {r : List As} {w : World} (h : St (EndA e its sent mark :: BytesA bv l :: r) w) (hd : LDel ack its its') (h1 : 0 ≤ mark) (h2 : mark ≤ 5) (h3 : 0 ≤ ack) (h4 : ack ≤ 5) (hl : l.length ≤ 100) :
   Calls Tryz.prog 183 #[ptr e, .agg #[vI (mark + 1), vI ack, bv]] w fun e' w' => ∃ u, e' = .returned (.tuple #[u, .bool true, .agg #[vO, vI (mark + 1), vN]]) ∧ St (EndA e its' sent (mark + 1) :: BytesA u l :: BytesA bv l :: r) w' := by
 obtain ⟨v, s⟩ := EndA.out h; obtain ⟨A, c, rfl, -⟩ := (s.by 2 rfl).form; obtain ⟨Av, cv, rfl, -⟩ := (Sl.of_own (s.own 1 rfl)).at_; have s2 := (s.obNew 233 #[vI (mark + 1), vI ack, .slice A l.length c]).obNew 233 #[vO, vO, vN]; rw [World.size_alloc] at s2; have oP := s2.ob (b := w.heap.size) 1 rfl; have p0 := oP.k 0 rfl; have p1 := oP.k 1 rfl; have p2 := oP.k 2 rfl; have cM := hdd (pmay_calls (mark + 1) ack (.slice A l.length c) l _ 0 _ (s2.by 4 rfl) (by omega) (by omega) h3 (by omega) hl (.inl (by omega))); have HS := hdd s2; have HE := hdd (s.ob (b := e) 0 rfl).lt; have hq : decide (mark + 1 = 0) = false := by simp; omega
 have hmf : ∀ (fn : Fn) (first cap : Array Value) (w : World), (Instr.makeFunc fn first cap).run Tryz.prog w = .ok (.func fn first cap) w := fun _ _ _ _ => rfl
 clear h s s2 oP
 go_enter Tryz.func183, Tryz.ntmps183
 go_wp2_with fail; refine cM.out.mono ?_; rintro e2 W ⟨rfl, hb⟩; have s3 := HS.out.same hb; have g0 := (s3.ob (b := e) 2 rfl).k 0 rfl; have s4 := ((s3).take [3, 1, 0, 0]); simp only [takeOut, zzD, zzE, zzF, zzG, zzH, zzI] at s4; have cD := hdd (ldel_calls hd s4); clear s3 s4 cM HS hb p0 p1 p2; go_wp2_with fail; refine cD.out.mono ?_; rintro e2 W2 ⟨v', rfl, s5⟩; have oE := s5.ob (b := e) 3 rfl; have f0 := oE.frozen 0; have g0 := oE.k 0 rfl; have s6 := (s5.front 3 rfl).set 0 v'; obtain ⟨A', c', rfl, -⟩ := (Sl.of_own (s5.own 0 rfl)).at_; have g2 := oE.k 2 rfl; have p0 := (s5.ob (b := w.heap.size) 1 rfl).k 0 rfl
 have ne1 : w.heap.size ≠ e := by
   have h9 := (HE.out); omega
 have ne2 : e ≠ w.heap.size + 1 := by
   have h9 := (HE.out); omega
 have ne3 : w.heap.size + 1 ≠ e := Ne.symm ne2; have f2 := oE.frozen 2; have s7 : St (ObA e 200 #[.slice A' its'.length c', vI sent, vI (mark + 1)] :: _) _ := s6.set 2 (vI (mark + 1)); clear oE s5 s6 cD HE; go_wp2; generalize (W2.setCell ⟨e, 0, none⟩ (.slice A' its'.length c')).setCell ⟨e, 2, none⟩ (vI (mark + 1)) = W3 at *; clear g0 f0 g2 p0 f2; have HS := hdd s7.drew; have cC := hdd (cloneb_calls l (.slice A l.length c) W3.drew (s7.drew.by 4 rfl) (by omega)); have p2 := (s7.ob (b := w.heap.size) 2 rfl).k 2 rfl; have g2 := (s7.ob (b := e) 0 rfl).k 2 rfl; clear s7
 go_region_held3 (fun V => V.cell? ⟨w.heap.size, 2, none⟩ = some (.slice A l.length c) ∧ V.cell? ⟨e, 2, none⟩ = some (vI (mark + 1))) (go_keep) ((first | (go_at_call 112; (with_reducible refine (cC.out).mono ?_); rintro e2 V1 ⟨⟨u, rfl, hu⟩, hbX⟩); obtain ⟨Au, cu, rfl, -⟩ := (BytesAt.of_own hu).form; have s8 := HS.out.bytes hbX hu; have p2 := (s8.ob (b := w.heap.size) 3 rfl).k 2 rfl; have g2 := (s8.ob (b := e) 1 rfl).k 2 rfl; have oR := s8.ob (b := w.heap.size + 1) 4 rfl; have r0 := oR.k 0 rfl; have r1 := oR.k 1 rfl; have r2 := oR.k 2 rfl; have f0 := oR.frozen 0; have f1 := oR.frozen 1; have f2 := oR.frozen 2))
 have s9 : St (ObA (w.heap.size + 1) 233 #[vO, vI (mark + 1), vN] :: _) _ := (((s8.front 4 rfl).set 0 vO).set 1 (vI (mark + 1))).set 2 vN; have oR9 := s9.ob (b := w.heap.size + 1) 0 rfl; have v0 := oR9.k 0 rfl; have v1 := oR9.k 1 rfl; have v2 := oR9.k 2 rfl; clear cC HS hu hbX r0 r1 r2 f0 f1 f2 s8 oR; have s10 := ((s9).take [0, 3, 1, 1, 0, 0]); simp only [takeOut, zzD, zzE, zzF, zzG, zzH, zzI] at s10; replace s10 := s10.drop.drop; have s11 := EndA.mk s10 rfl rfl; clear oR9 s9 s10; go_wp2; refine bodyPost_ret (v := .tuple #[.slice Au l.length cu, .bool true, .agg #[vO, vI (mark + 1), vN]]) ?_ rfl ⟨_, rfl, s11⟩; simp [results, Tryz.f183, go_sem, v0, v1, v2]
end
section
open Go.RowKit Go.Maps
open Ce
structure Na where
 nd : Nat
 lg : Nat
 dk : Nat
 rg : Nat
 e0 : Nat
 e1 : Nat
 eb : Nat
 lb : Nat
 ec : Nat
 er : List Value
abbrev nodeV (a : Na) (me now cnt : Nat) (ov : Value) : Array Value := #[vI me, vI 2, ptr a.lg, vI now, ptr a.dk, ptr a.rg, .slice (some ⟨a.eb, 0, none⟩) 2 a.ec, .slice (some ⟨a.lb, 0, none⟩) 2 2, vI cnt, ov]
def NodeB (a : Na) (me now cnt : Nat) (ov : Value) : As := sepA [ObA a.nd 126 (nodeV a me now cnt ov), ObA a.eb 136 (ptr a.e0 :: ptr a.e1 :: a.er).toArray, ObA a.lb 162 #[vN, vN], factA (2 ≤ a.ec) noA]
structure NF (a : Na) (me now cnt : Nat) (ov : Value) (w : World) : Prop where
 n : Ob w a.nd 126 (nodeV a me now cnt ov)
 e : Ob w a.eb 136 (ptr a.e0 :: ptr a.e1 :: a.er).toArray
 l : Ob w a.lb 162 #[vN, vN]
 c : 2 ≤ a.ec
section
variable {w : World} {l r : List As} {a : Na} {me now cnt : Nat} {ov : Value}
theorem St.nf (h : St l w) (k : Nat) (hk : l[k]? = some (NodeB a me now cnt ov)) : NF a me now cnt ov w := by
 have s := (h.front k hk); have s1 : St ([_, _, _, _] ++ l.eraseIdx k) w := s.flat; simp only [List.cons_append, List.nil_append] at s1; exact ⟨s1.ob 0 rfl, s1.ob 1 rfl, s1.ob 2 rfl, ((s1.front 3 rfl).fact).1⟩
theorem St.nset (h : St (NodeB a me now cnt ov :: r) w) (j : Nat) (u : Value) {me' now' cnt' : Nat} {ov' : Value} (he : (nodeV a me now cnt ov).setIfInBounds j u = nodeV a me' now' cnt' ov') : St (NodeB a me' now' cnt' ov' :: r) (w.setCell ⟨a.nd, j, none⟩ u) := by
 have s1 : St ([_, _, _, _] ++ r) w := h.flat; have s2 := St.set s1 j u; rw [he] at s2; exact St.fold (l := [_, _, _, _]) s2
theorem NF.same {w' : World} (h : NF a me now cnt ov w) (hb : Below w.heap.size w w') : NF a me now cnt ov w' := ⟨h.n.same hb, h.e.same hb, h.l.same hb, h.c⟩
end
section
variable {a : Na} {me now cnt : Nat} {ov : Value} {w : World}
theorem nlate_calls (h : NF a me now cnt ov w) : Calls Tryz.prog 54 #[ptr a.nd] w fun e w' => e = .returned vO ∧ w = w' := by
 have g7 := h.n.k 7 rfl; have l0 := h.l.k 0 rfl; have l1 := h.l.k 1 rfl; clear h
 go_enter Tryz.func54, Tryz.ntmps54
 go_wp2; refine wp_loop_rounds 3 ?_; rw [rounds_succ]; go_wp2; rw [rounds_succ]; go_wp2; rw [rounds_succ]; go_wp2; go_ret; exact ⟨rfl, rfl⟩
theorem nhurry_calls (h : NF a me now cnt ov w) : Calls Tryz.prog 177 #[ptr a.nd] w fun e w' => e = .returned (.tuple #[]) ∧ w = w' := by
 have g7 := h.n.k 7 rfl; have l0 := h.l.k 0 rfl; have l1 := h.l.k 1 rfl; clear h
 go_enter Tryz.func177, Tryz.ntmps177
 go_wp2
 go_step3
 go_wp2
 go_step3
 go_wp2; refine wp_loop_rounds 3 ?_; rw [rounds_succ]; go_wp2; refine wp_loop_rounds 1 ?_; rw [rounds_succ]; go_wp2; rw [rounds_succ]; go_wp2; refine wp_loop_rounds 1 ?_; rw [rounds_succ]; go_wp2; rw [rounds_succ]; go_wp2; rw [Exit.noGoto_normal]; go_end0; exact ⟨rfl, rfl⟩
theorem ndesk_calls (h : NF a me now cnt ov w) : Calls Tryz.prog 32 #[ptr a.nd] w fun e w' => e = .returned (ptr a.dk) ∧ w = w' := by
 have g4 := h.n.k 4 rfl; clear h
 go_enter Tryz.func32, Tryz.ntmps32
 go_wp2; go_ret; exact ⟨rfl, rfl⟩
theorem nregion_calls (h : NF a me now cnt ov w) : Calls Tryz.prog 21 #[ptr a.nd] w fun e w' => e = .returned (ptr a.rg) ∧ w = w' := by
 have g5 := h.n.k 5 rfl; clear h
 go_enter Tryz.func21, Tryz.ntmps21
 go_wp2; go_ret; exact ⟨rfl, rfl⟩
theorem nisr_calls (h : NF a me now cnt ov w) (i : Int) (h0 : 0 ≤ i) (h1 : i < 2) : Calls Tryz.prog 119 #[ptr a.nd, vI i] w fun e w' => e = .returned (.bool true) ∧ w = w' := nis_calls a.nd i w h0 h1 (h.n.k 1 rfl)
theorem nopen_calls {A0 A1 : Option Addr} {c0 c1 : Nat} {m0 m1 s0 s1 : Value} (h : NF a me now cnt ov w) (h0 : Ob w a.e0 200 #[.slice A0 0 c0, s0, m0]) (h1 : Ob w a.e1 200 #[.slice A1 0 c1, s1, m1]) : Calls Tryz.prog 31 #[ptr a.nd] w fun e w' => e = .returned vO ∧ w = w' := by
 have cL := hdd (nlate_calls h); have c0 := hdd (open_calls h0); have c1 := hdd (open_calls h1); have g6 := h.n.k 6 rfl; have l0 := h.e.k 0 rfl; have l1 := h.e.k 1 rfl; clear h h0 h1
 go_enter Tryz.func31, Tryz.ntmps31
 go_wp2_with fail; refine (cL.out).mono ?_; rintro e W ⟨rfl, rfl⟩; go_wp2; refine wp_loop_rounds 3 ?_; rw [rounds_succ]; go_wp2_with fail; refine (c0.out).mono ?_; rintro e W ⟨rfl, rfl⟩; go_wp2; rw [rounds_succ]; go_wp2_with fail; refine (c1.out).mono ?_; rintro e W ⟨rfl, rfl⟩; go_wp2; rw [rounds_succ]; go_wp2; go_ret; exact ⟨rfl, rfl⟩
end
theorem sent_info : (Tryz.prog.info? 181).map (fun i => (i.zero, i.size, i.bytes)) = some (some (.agg #[.bool false, vO, vN, vO, vO, vO, vO]), 7, 72) := by kernel_rfl
theorem npacket_calls {a : Na} {me now cnt n : Nat} {ov bv : Value} {xs : List Value} {l : List UInt8} {r : List As} {w : World} (tgt sq ak : Int) (h : St (NodeB a me now cnt ov :: RowA 181 7 ov n xs :: r) w) (hI : BytesAt w 0 w.heap.size bv l) (hn : n ≤ 10) (h1 : 0 ≤ sq) (h2 : sq ≤ 10) (h3 : 0 ≤ ak) (h4 : ak ≤ 10) (hl : l.length ≤ 100) (h0 : 1 ≤ sq ∨ l = []) :
   Calls Tryz.prog 179 #[ptr a.nd, vI tgt, .agg #[vI sq, vI ak, bv]] w fun e w' => e = .returned (.tuple #[]) ∧ ∃ ov' u, St (NodeB a me now cnt ov' :: RowA 181 7 ov' (n + 1) (xs ++ sentP tgt u) :: BytesA u (pkC sq ak l) :: r) w' := by
 have hal := (Below.refl w.heap.size w).alloc (Nat.le_refl _) (.cells #[vI sq, vI ak, bv] 233); have s1 := h.alloc (.cells #[vI sq, vI ak, bv] 233); have oP := Ob.new w 233 #[vI sq, vI ak, bv]; have cE := hdd (lencode_calls sq ak bv l _ (hI.mono hal hal.size) h1 h2 h3 h4 hl h0); obtain ⟨A, c, rfl, -⟩ := hI.form; have q0 := oP.k 0 rfl; have q1 := oP.k 1 rfl; have q2 := oP.k 2 rfl; have HS := hdd s1; clear h hI oP hal s1 h0
 go_enter Tryz.func179, Tryz.ntmps179
 go_wp2_with fail; refine (cE.out).mono ?_; rintro e W ⟨⟨u, rfl, hu⟩, hb⟩; obtain ⟨Au, cu, rfl, -⟩ := (BytesAt.of_own hu).form; have s2 := HS.out.bytes hb hu; have g9 := (s2.nf 1 rfl).n.k 9 rfl; obtain ⟨Av, cv, rfl, -⟩ := (Sl.of_own (s2.own 2 rfl)).at_; clear hu hb cE HS q0 q1 q2; have sL0 := (s2).alloc (.cells #[.bool false, vI tgt, .slice Au (pkC sq ak l).length cu, vO, vO, vO, vO] 181); have slL := Sl.new (W) #[.bool false, vI tgt, .slice Au (pkC sq ak l).length cu, vO, vO, vO, vO] 181 (n := 1) (size := 7) rfl (by unfold maxLen; omega); obtain ⟨iL, hiL, hzL0, hzL1, hzL2⟩ := inf3 sent_info; go_wp2_with (first | (at_builtin; refine wpList_append_sl _ rfl (.tmp 17) (.tmp 21) _ rfl 0 181 iL _ 7 72 Tryz.underlying101 hiL hzL0 hzL1 hzL2 rfl (by omega) (.slice Av n cv) n xs rfl (sL0.own 2 rfl) _ _ _ 1 [.bool false, vI tgt, .slice Au (pkC sq ak l).length cu, vO, vO, vO, vO] rfl slL (by simp [Value.oneCell']) (by unfold maxLen; omega) (by omega) (by simp) ?_; intro v9 W9 hv9 hg9 hat9; obtain ⟨A9, c9, hv9e, -⟩ := (Sl.of_own hv9).at_; subst hv9e; have sL1 := (sL0.front 2 rfl).row hv9 hg9 hat9; clear hg9 hat9 hv9 slL sL0; have g9 := (sL1.nf 2 rfl).n.k 9 rfl; have f9 := (sL1.nf 2 rfl).n.frozen 9)); have s3 := ((sL1).take [2, 0, 0]); simp only [takeOut, zzD, zzE, zzF, zzG, zzH, zzI] at s3; have s4 : St (NodeB a me now cnt (.slice A9 (n + 1) c9) :: _) _ := s3.nset 9 (.slice A9 (n + 1) c9) rfl; go_end0; exact ⟨rfl, _, _, s4⟩
theorem nsend0_calls {a : Na} {me now cnt n : Nat} {ov bv : Value} {xs : List Value} {its : List LItem} {sent mark : Nat} {l : List UInt8} {r : List As} {w : World} (h : St (NodeB a me now cnt ov :: EndA a.e0 its sent mark :: RowA 181 7 ov n xs :: BytesA bv l :: r) w) (hn : n ≤ 9) (hnow : now ≤ 10) (hs : sent ≤ 5) (hm : mark ≤ 5) (hi : its.length ≤ 5) (hl : l.length ≤ 100) :
   Calls Tryz.prog 234 #[ptr a.nd, vO, bv] w fun e w' => e = .returned (.tuple #[]) ∧ ∃ ov' u A c, St (NodeB a me now cnt ov' :: EndA a.e0 (its ++ [((sent : Int) + 1, .slice A l.length c, 1, (now : Int) + 2)]) ((sent : Int) + 1) mark :: RowA 181 7 ov' (n + 1) (xs ++ sentP 0 u) :: BytesA u (pkC ((sent : Int) + 1) mark l) :: r) w' := by
 have F := h.nf 0 rfl; have g7 := F.n.k 7 rfl; have g6 := F.n.k 6 rfl; have g3 := F.n.k 3 rfl; have l0 := F.l.k 0 rfl; have e0 := F.e.k 0 rfl; have hec := F.c; have hH := hdd F; clear F; have s1 := ((h).take [1, 2, 0, 0]); simp only [takeOut, zzD, zzE, zzF, zzG, zzH, zzI] at s1; have cA := hdd (send_calls now s1.drew hnow hs hi hl); have s2 := s1.obNew 233 #[vO, vO, vN]; have s3 := ((s2).take [1, 1, 0, 0, 0]); simp only [takeOut, zzD, zzE, zzF, zzG, zzH, zzI] at s3; have cB := hdd (send_calls now s3.drew hnow hs hi hl); have hbA := (Below.refl w.heap.size w).alloc (Nat.le_refl _) (.cells #[vO, vO, vN] 233); have FB := hdd (hH.out.same hbA); have F := hH.out; obtain ⟨A, c, rfl, -⟩ := (h.by 3 rfl).form; have HS1 := hdd s1; have HS3 := hdd s3; clear h s1 s2 s3 hbA
 go_enter Tryz.func234, Tryz.ntmps234
 have z1 : a.nd ≠ w.heap.size := Nat.ne_of_lt F.n.lt; have z2 : a.eb ≠ w.heap.size := Nat.ne_of_lt F.e.lt; go_wp2_with fail
 go_cut [6, 7] (fun p q V => q = vO ∧ ∃ pb u A1 c1, p = ptr pb ∧ St (ObA pb 233 #[vI ((sent : Int) + 1), vI mark, u] :: EndA a.e0 (its ++ [((sent : Int) + 1, .slice A1 l.length c1, 1, (now : Int) + 2)]) ((sent : Int) + 1) mark :: BytesA u l :: BytesA (.slice A l.length c) l :: NodeB a me now cnt ov :: RowA 181 7 ov n xs :: r) V)
 case first =>
   go_region_held3 (fun V => V.cell? ⟨a.nd, 6, none⟩ = some (.slice (some ⟨a.eb, 0, none⟩) 2 a.ec) ∧ V.cell? ⟨a.eb, 0, none⟩ = some (ptr a.e0) ∧ V.cell? ⟨a.nd, 3, none⟩ = some (vI now)) (go_keep) ((first
       | (go_at_call 229; (with_reducible refine (cA.out).mono ?_); rintro e2 V1 ⟨u, A1, c1, rfl, s3⟩); obtain ⟨Au, cu, rfl, -⟩ := (s3.by 1 rfl).form; have g6 := (s3.nf 3 rfl).n.k 6 rfl; have g3 := (s3.nf 3 rfl).n.k 3 rfl; have e0 := (s3.nf 3 rfl).e.k 0 rfl; have z1 := Nat.ne_of_lt (s3.nf 3 rfl).n.lt; have z2 := Nat.ne_of_lt (s3.nf 3 rfl).e.lt
       | (go_at_call 229; (with_reducible refine (cB.out).mono ?_); rintro e2 V1 ⟨u, A1, c1, rfl, s3⟩); obtain ⟨Au, cu, rfl, -⟩ := (s3.by 1 rfl).form; have g6 := (s3.nf 4 rfl).n.k 6 rfl; have g3 := (s3.nf 4 rfl).n.k 3 rfl; have e0 := (s3.nf 4 rfl).e.k 0 rfl; have oq := s3.ob (b := w.heap.size) 3 rfl; have r0 := oq.k 0 rfl; have r1 := oq.k 1 rfl; have r2 := oq.k 2 rfl; have f0 := oq.frozen 0; have f1 := oq.frozen 1; have f2 := oq.frozen 2; have z1 : w.heap.size ≠ a.nd := Ne.symm (Nat.ne_of_lt F.n.lt); have z2 : w.heap.size ≠ a.eb := Ne.symm (Nat.ne_of_lt F.e.lt)))
   all_goals
     go_wp2_with fail
     go_meet
     case rel =>
       refine ⟨rfl, _, .slice Au l.length cu, A1, c1, rfl, ?_⟩
       first
         | exact s3.obNew _ _
         | exact (((s3.front 3 rfl).set 0 _).set 1 _).set 2 _
 clear g6 g3 e0 cA cB FB hH F z1 z2 HS1 HS3; obtain ⟨rfl, pb, u, A1, c1, rfl, s4⟩ := hcut; obtain ⟨Au, cu, rfl, -⟩ := (s4.by 2 rfl).form; have op := s4.ob (b := pb) 0 rfl; have p0 := op.k 0 rfl; have p1 := op.k 1 rfl; have p2 := op.k 2 rfl; have s5 := ((s4).take [0, 2, 2, 2, 0, 0]); simp only [takeOut, zzD, zzE, zzF, zzG, zzH, zzI] at s5; replace s5 := s5.drop.drop; have cP := hdd (npacket_calls 0 ((sent : Int) + 1) mark s5 (s5.by 3 rfl) (by omega) (by omega) (by omega) (by omega) (by omega) hl (.inl (by omega))); clear op s4 s5; go_wp2_with fail; refine cP.out.mono ?_; rintro e2 V5 ⟨rfl, ov', u', s6⟩; have s7 := ((s6).take [4, 0, 2, 0, 0]); simp only [takeOut, zzD, zzE, zzF, zzG, zzH, zzI] at s7; replace s7 := s7.drop; go_wp2; refine bodyPost_ret (results_none rfl _ _ _) rfl ?_; exact ⟨rfl, _, _, _, _, s7⟩
theorem nsend1_calls {a : Na} {me now cnt n : Nat} {ov bv : Value} {xs : List Value} {its : List LItem} {sent mark : Nat} {l : List UInt8} {r : List As} {w : World} (h : St (NodeB a me now cnt ov :: EndA a.e1 its sent mark :: RowA 181 7 ov n xs :: BytesA bv l :: r) w) (hn : n ≤ 9) (hnow : now ≤ 10) (hs : sent ≤ 5) (hm : mark ≤ 5) (hi : its.length ≤ 5) (hl : l.length ≤ 100) :
   Calls Tryz.prog 234 #[ptr a.nd, vI 1, bv] w fun e w' => e = .returned (.tuple #[]) ∧ ∃ ov' u A c, St (NodeB a me now cnt ov' :: EndA a.e1 (its ++ [((sent : Int) + 1, .slice A l.length c, 1, (now : Int) + 2)]) ((sent : Int) + 1) mark :: RowA 181 7 ov' (n + 1) (xs ++ sentP 1 u) :: BytesA u (pkC ((sent : Int) + 1) mark l) :: r) w' := by
 have F := h.nf 0 rfl; have g7 := F.n.k 7 rfl; have g6 := F.n.k 6 rfl; have g3 := F.n.k 3 rfl; have l0 := F.l.k 1 rfl; have e0 := F.e.k 1 rfl; have hec := F.c; have hH := hdd F; clear F; have s1 := ((h).take [1, 2, 0, 0]); simp only [takeOut, zzD, zzE, zzF, zzG, zzH, zzI] at s1; have cA := hdd (send_calls now s1.drew hnow hs hi hl); have s2 := s1.obNew 233 #[vO, vO, vN]; have s3 := ((s2).take [1, 1, 0, 0, 0]); simp only [takeOut, zzD, zzE, zzF, zzG, zzH, zzI] at s3; have cB := hdd (send_calls now s3.drew hnow hs hi hl); have hbA := (Below.refl w.heap.size w).alloc (Nat.le_refl _) (.cells #[vO, vO, vN] 233); have FB := hdd (hH.out.same hbA); have F := hH.out; obtain ⟨A, c, rfl, -⟩ := (h.by 3 rfl).form; have HS1 := hdd s1; have HS3 := hdd s3; clear h s1 s2 s3 hbA
 go_enter Tryz.func234, Tryz.ntmps234
 have z1 : a.nd ≠ w.heap.size := Nat.ne_of_lt F.n.lt; have z2 : a.eb ≠ w.heap.size := Nat.ne_of_lt F.e.lt; go_wp2_with fail
 go_cut [6, 7] (fun p q V => q = vO ∧ ∃ pb u A1 c1, p = ptr pb ∧ St (ObA pb 233 #[vI ((sent : Int) + 1), vI mark, u] :: EndA a.e1 (its ++ [((sent : Int) + 1, .slice A1 l.length c1, 1, (now : Int) + 2)]) ((sent : Int) + 1) mark :: BytesA u l :: BytesA (.slice A l.length c) l :: NodeB a me now cnt ov :: RowA 181 7 ov n xs :: r) V)
 case first =>
   go_region_held3 (fun V => V.cell? ⟨a.nd, 6, none⟩ = some (.slice (some ⟨a.eb, 0, none⟩) 2 a.ec) ∧ V.cell? ⟨a.eb, 1, none⟩ = some (ptr a.e1) ∧ V.cell? ⟨a.nd, 3, none⟩ = some (vI now)) (go_keep) ((first
       | (go_at_call 229; (with_reducible refine (cA.out).mono ?_); rintro e2 V1 ⟨u, A1, c1, rfl, s3⟩); obtain ⟨Au, cu, rfl, -⟩ := (s3.by 1 rfl).form; have g6 := (s3.nf 3 rfl).n.k 6 rfl; have g3 := (s3.nf 3 rfl).n.k 3 rfl; have e0 := (s3.nf 3 rfl).e.k 1 rfl; have z1 := Nat.ne_of_lt (s3.nf 3 rfl).n.lt; have z2 := Nat.ne_of_lt (s3.nf 3 rfl).e.lt
       | (go_at_call 229; (with_reducible refine (cB.out).mono ?_); rintro e2 V1 ⟨u, A1, c1, rfl, s3⟩); obtain ⟨Au, cu, rfl, -⟩ := (s3.by 1 rfl).form; have g6 := (s3.nf 4 rfl).n.k 6 rfl; have g3 := (s3.nf 4 rfl).n.k 3 rfl; have e0 := (s3.nf 4 rfl).e.k 1 rfl; have oq := s3.ob (b := w.heap.size) 3 rfl; have r0 := oq.k 0 rfl; have r1 := oq.k 1 rfl; have r2 := oq.k 2 rfl; have f0 := oq.frozen 0; have f1 := oq.frozen 1; have f2 := oq.frozen 2; have z1 : w.heap.size ≠ a.nd := Ne.symm (Nat.ne_of_lt F.n.lt); have z2 : w.heap.size ≠ a.eb := Ne.symm (Nat.ne_of_lt F.e.lt)))
   all_goals
     go_wp2_with fail
     go_meet
     case rel =>
       refine ⟨rfl, _, .slice Au l.length cu, A1, c1, rfl, ?_⟩
       first
         | exact s3.obNew _ _
         | exact (((s3.front 3 rfl).set 0 _).set 1 _).set 2 _
 clear g6 g3 e0 cA cB FB hH F z1 z2 HS1 HS3; obtain ⟨rfl, pb, u, A1, c1, rfl, s4⟩ := hcut; obtain ⟨Au, cu, rfl, -⟩ := (s4.by 2 rfl).form; have op := s4.ob (b := pb) 0 rfl; have p0 := op.k 0 rfl; have p1 := op.k 1 rfl; have p2 := op.k 2 rfl; have s5 := ((s4).take [0, 2, 2, 2, 0, 0]); simp only [takeOut, zzD, zzE, zzF, zzG, zzH, zzI] at s5; replace s5 := s5.drop.drop; have cP := hdd (npacket_calls 1 ((sent : Int) + 1) mark s5 (s5.by 3 rfl) (by omega) (by omega) (by omega) (by omega) (by omega) hl (.inl (by omega))); clear op s4 s5; go_wp2_with fail; refine cP.out.mono ?_; rintro e2 V5 ⟨rfl, ov', u', s6⟩; have s7 := ((s6).take [4, 0, 2, 0, 0]); simp only [takeOut, zzD, zzE, zzF, zzG, zzH, zzI] at s7; replace s7 := s7.drop; go_wp2; refine bodyPost_ret (results_none rfl _ _ _) rfl ?_; exact ⟨rfl, _, _, _, _, s7⟩
end
end Tp
end Go.Proofs.YtgcnhmjpfbbfcaaGreat
