/-
  part of the proof of TopNames.
-/
import Derived.Test.YtgcnhmjpfbbfcaaGreatTy38
set_option linter.unusedVariables false
set_option linter.unusedSimpArgs false
set_option maxRecDepth 100000
set_option maxHeartbeats 8000000
namespace Go.Proofs.YtgcnhmjpfbbfcaaGreat
namespace Tp
section
open Go.RowKit Go.Maps
open Ce It Al Kp
theorem St.around {l r : List As} {w : World} (h : St (l ++ r) w) : St (r ++ l) w := by
 obtain ⟨X, h⟩ := h; obtain ⟨A, B, hA, hB, hd, hx⟩ := h.split; exact ⟨X, Sep.append hB hA (fun i hi h => hd i h hi) fun i => (hx i).trans Or.comm⟩
theorem wtake_calls {a : Wd} {wy ak : Value} {n q c : Nat} {U : Option Addr} {k tt : Int} {xs : List Value} {r : List As} {w : World} (hn : n ≤ 50) (hxs : xs.length = n * 3) (h1c : ∀ u ∈ xs, u.oneCell' = true)
   (hs : ∀ rest : List Value, putSeg (putSeg (ltr k tt (.slice U q c) ++ xs ++ rest).toArray 0 xs) (n * 3) [vO, vO, vN] = (xs ++ ([vO, vO, vN] ++ rest)).toArray)
   (h : St (ObA a.wb 62 (worldV a wy ak) :: RowA 99 3 wy (n + 1) (ltr k tt (.slice U q c) ++ xs) :: r) w) :
   Calls Tryz.prog 40 #[ptr a.wb, vO] w fun e w' => e = .returned (.agg #[vI k, vI tt, .slice U q c]) ∧ ∃ wy', St (ObA a.wb 62 (worldV a wy' ak) :: RowA 99 3 wy' n xs :: r) w' := by
 have hlt := (h.ob (b := a.wb) 0 rfl).lt; have s1 := (h.obNew 99 #[vO, vO, vN]).obNew 99 #[vI k, vI tt, .slice U q c]; simp only [World.size_alloc] at s1; obtain ⟨g, cap, rest, rfl, hc1, hc2, hl0, hl, s2⟩ := (h.front 1 rfl).rowOb; have oG := s2.ob (b := g) 0 rfl; have hgl := oG.lt; have p0 := oG.k 0 rfl; have p1 := oG.k 1 rfl; have p2 := oG.k 2 rfl; have g5 : w.cell? ⟨a.wb, 5, none⟩ = some (.slice (some ⟨g, 0, none⟩) (n + 1) cap) := (h.ob (b := a.wb) 0 rfl).k 5 rfl; have hn1 : (0 : Int) < (n : Int) + 1 := by omega
 have s3 := ((s1).take [3, 2, 1, 0]); simp only [takeOut, zzD, zzE, zzF, zzG, zzH, zzI] at s3; have cD := hdd (wdel_calls (x := ltr k tt (.slice U q c)) rfl hxs h1c hs s3); clear h s2 oG s1 s3 hl hl0
 go_enter Tryz.func40, Tryz.ntmps40
 go_wp2_with fail; refine cD.out.mono ?_; rintro e W1 ⟨v', rfl, s4⟩; obtain ⟨A1, c1, rfl, -⟩ := (Sl.of_own (s4.own 0 rfl)).at_; have fw := (s4.ob (b := a.wb) 1 rfl).frozen 5; have gw := (s4.ob (b := a.wb) 1 rfl).k 5 rfl; have s5 : St (ObA a.wb 62 (worldV a (.slice A1 n c1) ak) :: _) _ := (s4.front 1 rfl).set 5 (.slice A1 n c1); simp only [zzH, zzI, zzG, zzF, List.length_cons, List.length_nil] at s5; clear s4 cD p0 p1 p2; have o5 := s5.ob (b := w.heap.size + 1) 3 rfl; have y0 := o5.k 0 rfl; have y1 := o5.k 1 rfl; have y2 := o5.k 2 rfl; have o4 := s5.ob (b := w.heap.size) 2 rfl; have z0 := o4.k 0 rfl; have z1 := o4.k 1 rfl; have z2 := o4.k 2 rfl; have f0 := o4.frozen 0; have f1 := o4.frozen 1; have f2 := o4.frozen 2; have s6 := (((s5.front 2 rfl).set 0 (vI k)).set 1 (vI tt)).set 2 (.slice U q c); have oR : Ob _ w.heap.size 99 #[vI k, vI tt, .slice U q c] := s6.ob 0 rfl; have v0 := oR.k 0 rfl; have v1 := oR.k 1 rfl; have v2 := oR.k 2 rfl; have s7 := ((s6).take [0, 2, 0, 0]); simp only [takeOut, zzD, zzE, zzF, zzG, zzH, zzI] at s7; replace s7 := s7.drop.drop; clear s6 s5 o5 o4 oR; go_wp2; refine bodyPost_ret (v := .agg #[vI k, vI tt, .slice U q c]) ?_ rfl ⟨rfl, _, s7⟩; simp [results, Tryz.f40, go_sem, v0, v1, v2]
theorem arrive_calls {α β : Type} {wb nd : Nat} {k tt : Int} {U : Option Addr} {q c : Nat} {L : List As} {F : α → Value} {M : α → List As} {N : α → β → List As} {w : World} (h : St L w)
   (hN : ∀ r W, St (L ++ r) W → Calls Tryz.prog 50 #[ptr wb, vI tt] W fun e w' => e = .returned (ptr nd) ∧ W = w')
   (hO : ∀ r W, St (L ++ r) W → Calls Tryz.prog 75 #[ptr nd, vI k, .slice U q c] W fun e w' => ∃ x, e = .returned (.tuple #[F x, vO]) ∧ St (M x ++ r) w')
   (hS : ∀ x r W, St (M x ++ r) W → Calls Tryz.prog 42 #[ptr wb, vI tt, F x] W fun e w' => e = .returned (.tuple #[]) ∧ ∃ y, St (N x y ++ r) w') :
   Calls Tryz.prog 39 #[ptr wb, .agg #[vI k, vI tt, .slice U q c]] w fun e w' => e = .returned (.tuple #[]) ∧ ∃ x y, St (N x y) w' := by
 have s1 : St (L ++ [ObA w.heap.size 99 #[vI k, vI tt, .slice U q c]]) _ := St.around (l := [_]) (h.obNew 99 #[vI k, vI tt, .slice U q c]); have oB := (St.around s1).ob (b := w.heap.size) 0 rfl; have y0 := oB.k 0 rfl; have y1 := oB.k 1 rfl; have y2 := oB.k 2 rfl; have cN := hdd (hN _ _ s1); have cO := hdd (hO _ _ s1); have HS := hdd hS; clear h s1 oB hN hO hS
 go_enter Tryz.func39, Tryz.ntmps39
 go_wp2_with fail; refine cN.out.mono ?_; rintro e W ⟨rfl, rfl⟩; go_wp2_with fail; refine cO.out.mono ?_; rintro e W ⟨x, rfl, s2⟩; have oB := (St.around s2).ob (b := w.heap.size) 0 rfl; have x1 := oB.k 1 rfl; have cS := hdd (HS.out _ _ _ s2); clear oB cN cO y0 y1 y2; go_wp2_with fail; refine cS.out.mono ?_; rintro e W ⟨rfl, y, s3⟩; go_wp2; go_end0; exact ⟨rfl, x, y, (St.around s3).drop⟩
abbrev NbA (a : Wd) : As := ObA a.nb 71 (ptr a.n0 :: ptr a.n1 :: a.nr).toArray
abbrev WoA (a : Wd) (wy ak : Value) : As := ObA a.wb 62 (worldV a wy ak)
abbrev LtA (wy : Value) (n : Nat) (xs : List Value) : As := RowA 99 3 wy n xs
theorem arr_q {a : Wd} {wy ak bv : Value} {n cnt u : Nat} {xs : List Value} {r : List As} {w : World} (hc : 2 ≤ a.nc) (hn : n ≤ 40) (hu : u ≤ 40000) (hcn : cnt ≤ 100)
   (h : St (WoA a wy ak :: LtA wy n xs :: NbA a :: NodeZ DeskN a.n0 1 cnt u [] 0 0 [] :: BytesA bv (pkC 1 0 codeQ) :: r) w) :
   Calls Tryz.prog 39 #[ptr a.wb, .agg #[vI 1, vO, bv]] w fun e w' => e = .returned (.tuple #[]) ∧ ∃ wy' u1 u2 u3, St (WoA a wy' ak :: LtA wy' (n + 3) (xs ++ ltr 0 1 u1 ++ ltr 0 1 u2 ++ ltr 0 1 u3) :: NbA a :: NodeZ DeskA a.n0 1 (cnt + 1) (u + 300) [(1, 3), (2, 3)] 2 1 stk1 :: BytesA u1 (pkC 1 1 codeN) :: BytesA u2 (pkC 2 1 codeY) :: BytesA u3 (pkC 0 1 []) :: r) w' := by
 obtain ⟨A, c, rfl, -⟩ := (h.by 4 rfl).form
 refine (arrive_calls (α := Value × Value × Value × Value) (β := Value) (nd := a.n0) (F := fun x => x.1)
   (M := fun x => NodeZ DeskA a.n0 1 (cnt + 1) (u + 300) [(1, 3), (2, 3)] 2 1 stk1 :: RowA 181 7 x.1 3 (sentP 1 x.2.1 ++ sentP 1 x.2.2.1 ++ sentP 1 x.2.2.2) :: BytesA x.2.1 (pkC 1 1 codeN) :: BytesA x.2.2.1 (pkC 2 1 codeY) :: BytesA x.2.2.2 (pkC 0 1 []) :: WoA a wy ak :: LtA wy n xs :: NbA a :: r)
   (N := fun x wy' => WoA a wy' ak :: LtA wy' (n + 3) (xs ++ ltr 0 1 x.2.1 ++ ltr 0 1 x.2.2.1 ++ ltr 0 1 x.2.2.2) :: NbA a :: NodeZ DeskA a.n0 1 (cnt + 1) (u + 300) [(1, 3), (2, 3)] 2 1 stk1 :: BytesA x.2.1 (pkC 1 1 codeN) :: BytesA x.2.2.1 (pkC 2 1 codeY) :: BytesA x.2.2.2 (pkC 0 1 []) :: r) h ?_ ?_ ?_).mono ?_
 · intro r' W s
   exact wnode0_calls ⟨s.ob 0 rfl, s.ob 2 rfl, hc⟩
 · intro r' W s
   have t := ((s).take [3, 3, 0, 0, 0]); simp only [takeOut, zzD, zzE, zzF, zzG, zzH, zzI] at t; refine (zon_q t hu hcn).mono ?_; rintro e w' ⟨ov, u1, u2, u3, rfl, t2⟩; exact ⟨(ov, u1, u2, u3), rfl, t2⟩
 · rintro ⟨ov, u1, u2, u3⟩ r' W s
   have s' : St (_ :: RowA 181 7 ov 3 (sentP 1 u1 ++ sentP 1 u2 ++ sentP 1 u3) :: BytesA u1 (pkC 1 1 codeN) :: BytesA u2 (pkC 2 1 codeY) :: BytesA u3 (pkC 0 1 []) :: WoA a wy ak :: LtA wy n xs :: NbA a :: (r ++ r')) W := s; obtain ⟨A1, c1, rfl, -⟩ := (s'.by 2 rfl).form; obtain ⟨A2, c2, rfl, -⟩ := (s'.by 3 rfl).form; obtain ⟨A3, c3, rfl, -⟩ := (s'.by 4 rfl).form; have t := ((s').take [5, 5, 1, 4, 0, 0, 0, 0]); simp only [takeOut, zzD, zzE, zzF, zzG, zzH, zzI] at t; refine (wsend_ppp (by omega) t).mono ?_; rintro e w' ⟨rfl, wy', t2⟩; exact ⟨rfl, wy', t2⟩
 · rintro e w' ⟨rfl, ⟨ov, u1, u2, u3⟩, wy', s⟩
   exact ⟨rfl, wy', u1, u2, u3, s⟩
theorem arr_n {a : Wd} {wy ak bv : Value} {n cnt u : Nat} {xs : List Value} {st : Sk.Stk} {r : List As} {w : World} (hc : 2 ≤ a.nc) (hn : n ≤ 40) (hu : u ≤ 40000) (hcn : cnt ≤ 100)
   (h : St (WoA a wy ak :: LtA wy n xs :: NbA a :: NodeU DeskN a.n1 1 cnt u [(1, 2)] 1 0 st :: BytesA bv (pkC 1 1 codeN) :: r) w) :
   Calls Tryz.prog 39 #[ptr a.wb, .agg #[vO, vI 1, bv]] w fun e w' => e = .returned (.tuple #[]) ∧ ∃ wy' u1, St (WoA a wy' ak :: LtA wy' (n + 1) (xs ++ ltr 1 0 u1) :: NbA a :: NodeU DeskA a.n1 1 (cnt + 1) (u + 300) [] 1 1 st :: BytesA u1 (pkC 0 1 []) :: r) w' := by
 obtain ⟨A, c, rfl, -⟩ := (h.by 4 rfl).form
 refine (arrive_calls (α := Value × Value) (β := Value) (nd := a.n1) (F := fun x => x.1)
   (M := fun x => NodeU DeskA a.n1 1 (cnt + 1) (u + 300) [] 1 1 st :: RowA 181 7 x.1 1 (sentP 0 x.2) :: BytesA x.2 (pkC 0 1 []) :: WoA a wy ak :: LtA wy n xs :: NbA a :: r)
   (N := fun x wy' => WoA a wy' ak :: LtA wy' (n + 1) (xs ++ ltr 1 0 x.2) :: NbA a :: NodeU DeskA a.n1 1 (cnt + 1) (u + 300) [] 1 1 st :: BytesA x.2 (pkC 0 1 []) :: r) h ?_ ?_ ?_).mono ?_
 · intro r' W s
   exact wnode1_calls ⟨s.ob 0 rfl, s.ob 2 rfl, hc⟩
 · intro r' W s
   have t := ((s).take [3, 3, 0, 0, 0]); simp only [takeOut, zzD, zzE, zzF, zzG, zzH, zzI] at t; refine (uon_n t hu hcn).mono ?_; rintro e w' ⟨ov, u1, rfl, t2⟩; exact ⟨(ov, u1), rfl, t2⟩
 · rintro ⟨ov, u1⟩ r' W s
   have s' : St (_ :: RowA 181 7 ov 1 (sentP 0 u1) :: BytesA u1 (pkC 0 1 []) :: WoA a wy ak :: LtA wy n xs :: NbA a :: (r ++ r')) W := s; obtain ⟨A1, c1, rfl, -⟩ := (s'.by 2 rfl).form; have t := ((s').take [3, 3, 1, 2, 0, 0]); simp only [takeOut, zzD, zzE, zzF, zzG, zzH, zzI] at t; refine (wsend_p (by omega) t).mono ?_; rintro e w' ⟨rfl, wy', t2⟩; exact ⟨rfl, wy', t2⟩
 · rintro e w' ⟨rfl, ⟨ov, u1⟩, wy', s⟩
   exact ⟨rfl, wy', u1, s⟩
theorem arr_y {D : Nat → Int → As} {a : Wd} {wy ak bv : Value} {n cnt u : Nat} {xs : List Value} {st : Sk.Stk} {r : List As} {w : World} (hc : 2 ≤ a.nc) (hn : n ≤ 40) (hu : u ≤ 40000) (hcn : cnt ≤ 100)
   (h : St (WoA a wy ak :: LtA wy n xs :: NbA a :: NodeU D a.n1 1 cnt u [] 1 1 st :: BytesA bv (pkC 2 1 codeY) :: MapA strK 67 a.am [] :: r) w) :
   Calls Tryz.prog 39 #[ptr a.wb, .agg #[vO, vI 1, bv]] w fun e w' => e = .returned (.tuple #[]) ∧ ∃ wy' u1, St (WoA a wy' ak :: LtA wy' (n + 1) (xs ++ ltr 1 0 u1) :: NbA a :: NodeU D a.n1 1 (cnt + 1) (u + 300) [] 1 2 st :: BytesA u1 (pkC 0 2 []) :: MapA strK 67 a.am [(K01, .agg answC)] :: r) w' := by
 obtain ⟨A, c, rfl, -⟩ := (h.by 4 rfl).form
 refine (arrive_calls (α := Value × Value) (β := Value) (nd := a.n1) (F := fun x => x.1)
   (M := fun x => NodeU D a.n1 1 (cnt + 1) (u + 300) [] 1 2 st :: RowA 181 7 x.1 2 (sentY ++ sentP 0 x.2) :: BytesA x.2 (pkC 0 2 []) :: WoA a wy ak :: LtA wy n xs :: NbA a :: MapA strK 67 a.am [] :: r)
   (N := fun x wy' => WoA a wy' ak :: LtA wy' (n + 1) (xs ++ ltr 1 0 x.2) :: NbA a :: NodeU D a.n1 1 (cnt + 1) (u + 300) [] 1 2 st :: BytesA x.2 (pkC 0 2 []) :: MapA strK 67 a.am [(K01, .agg answC)] :: r) h ?_ ?_ ?_).mono ?_
 · intro r' W s
   exact wnode1_calls ⟨s.ob 0 rfl, s.ob 2 rfl, hc⟩
 · intro r' W s
   have t := ((s).take [3, 3, 0, 0, 0]); simp only [takeOut, zzD, zzE, zzF, zzG, zzH, zzI] at t; refine (uon_y t hu hcn).mono ?_; rintro e w' ⟨ov, u1, rfl, t2⟩; exact ⟨(ov, u1), rfl, t2⟩
 · rintro ⟨ov, u1⟩ r' W s
   have s' : St (NodeU D a.n1 1 (cnt + 1) (u + 300) [] 1 2 st :: RowA 181 7 ov 2 (sentY ++ sentP 0 u1) :: BytesA u1 (pkC 0 2 []) :: WoA a wy ak :: LtA wy n xs :: NbA a :: MapA strK 67 a.am [] :: (r ++ r')) W := s; obtain ⟨A1, c1, rfl, -⟩ := (s'.by 2 rfl).form; have t := ((s').take [3, 3, 1, 3, 2, 0, 0]); simp only [takeOut, zzD, zzE, zzF, zzG, zzH, zzI] at t; refine (wsend_yp (by omega) t).mono ?_; rintro e w' ⟨rfl, wy', t2⟩; have t3 := ((t2).take [0, 0, 1, 1, 1, 0]); simp only [takeOut, zzD, zzE, zzF, zzG, zzH, zzI] at t3; exact ⟨rfl, wy', t3⟩
 · rintro e w' ⟨rfl, ⟨ov, u1⟩, wy', s⟩
   exact ⟨rfl, wy', u1, s⟩
theorem arr_k1 {D : Nat → Int → As} {a : Wd} {wy ak bv : Value} {n cnt u : Nat} {xs : List Value} {q q' : List (Int × Int)} {sent mark ack : Int} {st : Sk.Stk} {r : List As} {w : World} (hc : 2 ≤ a.nc) (hu : u ≤ 40000) (hcn : cnt ≤ 100) (h3 : 0 ≤ ack) (h4 : ack ≤ 5)
   (hd : ∀ its, LForm q its → ∃ its', LDel ack its its' ∧ LForm q' its')
   (h : St (WoA a wy ak :: LtA wy n xs :: NbA a :: NodeU D a.n1 1 cnt u q sent mark st :: BytesA bv (pkC 0 ack []) :: r) w) :
   Calls Tryz.prog 39 #[ptr a.wb, .agg #[vO, vI 1, bv]] w fun e w' => e = .returned (.tuple #[]) ∧ St (WoA a wy ak :: LtA wy n xs :: NbA a :: NodeU D a.n1 1 (cnt + 1) (u + 300) q' sent mark st :: r) w' := by
 obtain ⟨A, c, rfl, -⟩ := (h.by 4 rfl).form
 refine (arrive_calls (α := Unit) (β := Unit) (nd := a.n1) (F := fun _ => vN)
   (M := fun _ => NodeU D a.n1 1 (cnt + 1) (u + 300) q' sent mark st :: WoA a wy ak :: LtA wy n xs :: NbA a :: r)
   (N := fun _ _ => NodeU D a.n1 1 (cnt + 1) (u + 300) q' sent mark st :: WoA a wy ak :: LtA wy n xs :: NbA a :: r) h ?_ ?_ ?_).mono ?_
 · intro r' W s
   exact wnode1_calls ⟨s.ob 0 rfl, s.ob 2 rfl, hc⟩
 · intro r' W s
   have t := ((s).take [3, 3, 0, 0, 0]); simp only [takeOut, zzD, zzE, zzF, zzG, zzH, zzI] at t; refine (uon_k t hu hcn h3 h4 hd).mono ?_; rintro e w' ⟨rfl, t2⟩; exact ⟨(), rfl, t2⟩
 · rintro - r' W s
   refine wsend_nil.mono ?_; rintro e w' ⟨rfl, rfl⟩; exact ⟨rfl, (), s⟩
 · rintro e w' ⟨rfl, -, -, s⟩
   have t := ((s).take [1, 1, 1, 0]); simp only [takeOut, zzD, zzE, zzF, zzG, zzH, zzI] at t; exact ⟨rfl, t⟩
theorem arr_k0 {D : Nat → Int → As} {a : Wd} {wy ak bv : Value} {n cnt u : Nat} {xs : List Value} {q q' : List (Int × Int)} {sent mark ack : Int} {st : Sk.Stk} {r : List As} {w : World} (hc : 2 ≤ a.nc) (hu : u ≤ 40000) (hcn : cnt ≤ 100) (h3 : 0 ≤ ack) (h4 : ack ≤ 5)
   (hd : ∀ its, LForm q its → ∃ its', LDel ack its its' ∧ LForm q' its')
   (h : St (WoA a wy ak :: LtA wy n xs :: NbA a :: NodeZ D a.n0 1 cnt u q sent mark st :: BytesA bv (pkC 0 ack []) :: r) w) :
   Calls Tryz.prog 39 #[ptr a.wb, .agg #[vI 1, vO, bv]] w fun e w' => e = .returned (.tuple #[]) ∧ St (WoA a wy ak :: LtA wy n xs :: NbA a :: NodeZ D a.n0 1 (cnt + 1) (u + 300) q' sent mark st :: r) w' := by
 obtain ⟨A, c, rfl, -⟩ := (h.by 4 rfl).form
 refine (arrive_calls (α := Unit) (β := Unit) (nd := a.n0) (F := fun _ => vN)
   (M := fun _ => NodeZ D a.n0 1 (cnt + 1) (u + 300) q' sent mark st :: WoA a wy ak :: LtA wy n xs :: NbA a :: r)
   (N := fun _ _ => NodeZ D a.n0 1 (cnt + 1) (u + 300) q' sent mark st :: WoA a wy ak :: LtA wy n xs :: NbA a :: r) h ?_ ?_ ?_).mono ?_
 · intro r' W s
   exact wnode0_calls ⟨s.ob 0 rfl, s.ob 2 rfl, hc⟩
 · intro r' W s
   have t := ((s).take [3, 3, 0, 0, 0]); simp only [takeOut, zzD, zzE, zzF, zzG, zzH, zzI] at t; refine (zon_k t hu hcn h3 h4 hd).mono ?_; rintro e w' ⟨rfl, t2⟩; exact ⟨(), rfl, t2⟩
 · rintro - r' W s
   refine wsend_nil.mono ?_; rintro e w' ⟨rfl, rfl⟩; exact ⟨rfl, (), s⟩
 · rintro e w' ⟨rfl, -, -, s⟩
   have t := ((s).take [1, 1, 1, 0]); simp only [takeOut, zzD, zzE, zzF, zzG, zzH, zzI] at t; exact ⟨rfl, t⟩
end
section
open Go.RowKit Go.Maps
open Ce It Al Kp
abbrev lz : List Value := [vO, vO, vN]
theorem del_seg0 (x y z : Value) (rest : List Value) : putSeg (putSeg ([x, y, z] ++ [] ++ rest).toArray 0 []) (0 * 3) lz = ([] ++ (lz ++ rest)).toArray := by simp [putSeg]
theorem del_seg1 (x y z a b c : Value) (rest : List Value) : putSeg (putSeg ([x, y, z] ++ [a, b, c] ++ rest).toArray 0 [a, b, c]) (1 * 3) lz = ([a, b, c] ++ (lz ++ rest)).toArray := by simp [putSeg]
theorem del_seg2 (x y z a b c d e f : Value) (rest : List Value) : putSeg (putSeg ([x, y, z] ++ ([a, b, c] ++ [d, e, f]) ++ rest).toArray 0 ([a, b, c] ++ [d, e, f])) (2 * 3) lz = (([a, b, c] ++ [d, e, f]) ++ (lz ++ rest)).toArray := by simp [putSeg]
theorem ldel_21 {its : List LItem} (h : LForm [(1, 3), (2, 3)] its) : ∃ its', LDel 1 its its' ∧ LForm [(2, 3)] its' := by
 obtain ⟨A, n, c, A2, n2, c2, rfl⟩ := h.two; exact ⟨_, .first (by omega) (by omega), rfl, rfl, rfl, ⟨_, _, _, rfl⟩, trivial⟩
theorem ldel_1 {its : List LItem} (h : LForm [(2, 3)] its) : ∃ its', LDel 2 its its' ∧ LForm [] its' := by
 obtain ⟨A, n, c, rfl⟩ := h.one; exact ⟨_, .one (by omega), trivial⟩
theorem ldel_0 {its : List LItem} (h : LForm [] its) : ∃ its', LDel 1 its its' ∧ LForm [] its' := by
 obtain rfl := h.nil; exact ⟨_, .none, trivial⟩
def Rd (a : Wd) (ak : Value) (c0 c1 u0 u1 : Nat) (r : List As) : Nat → World → Prop
 | 0, w => ∃ wy bv, St (WoA a wy ak :: LtA wy 1 (ltr 1 0 bv) :: NbA a :: NodeZ DeskN a.n0 1 (c0) (u0) [] 0 0 [] :: BytesA bv (pkC 1 0 codeQ) :: NodeU DeskN a.n1 1 (c1) (u1) [(1, 2)] 1 0 [] :: MapA strK 67 a.am [] :: r) w
 | 1, w => ∃ wy b1 b2 b3, St (WoA a wy ak :: LtA wy 3 (ltr 0 1 b1 ++ (ltr 0 1 b2 ++ ltr 0 1 b3)) :: NbA a :: NodeZ DeskA a.n0 1 (c0 + 1) (u0 + 300) [(1, 3), (2, 3)] 2 1 stk1 :: BytesA b1 (pkC 1 1 codeN) :: BytesA b2 (pkC 2 1 codeY) :: BytesA b3 (pkC 0 1 []) :: NodeU DeskN a.n1 1 (c1) (u1) [(1, 2)] 1 0 [] :: MapA strK 67 a.am [] :: r) w
 | 2, w => ∃ wy b2 b3 v1, St (WoA a wy ak :: LtA wy 3 (ltr 0 1 b2 ++ (ltr 0 1 b3 ++ ltr 1 0 v1)) :: NbA a :: NodeU DeskA a.n1 1 (c1 + 1) (u1 + 300) [] 1 1 [] :: BytesA v1 (pkC 0 1 []) :: NodeZ DeskA a.n0 1 (c0 + 1) (u0 + 300) [(1, 3), (2, 3)] 2 1 stk1 :: BytesA b2 (pkC 2 1 codeY) :: BytesA b3 (pkC 0 1 []) :: MapA strK 67 a.am [] :: r) w
 | 3, w => ∃ wy b3 v1 v2, St (WoA a wy ak :: LtA wy 3 (ltr 0 1 b3 ++ (ltr 1 0 v1 ++ ltr 1 0 v2)) :: NbA a :: NodeU DeskA a.n1 1 (c1 + 1 + 1) (u1 + 300 + 300) [] 1 2 [] :: BytesA v2 (pkC 0 2 []) :: MapA strK 67 a.am [(K01, .agg answC)] :: BytesA v1 (pkC 0 1 []) :: NodeZ DeskA a.n0 1 (c0 + 1) (u0 + 300) [(1, 3), (2, 3)] 2 1 stk1 :: BytesA b3 (pkC 0 1 []) :: r) w
 | 4, w => ∃ wy v1 v2, St (WoA a wy ak :: LtA wy 2 (ltr 1 0 v1 ++ ltr 1 0 v2) :: NbA a :: NodeU DeskA a.n1 1 (c1 + 1 + 1 + 1) (u1 + 300 + 300 + 300) [] 1 2 [] :: BytesA v2 (pkC 0 2 []) :: MapA strK 67 a.am [(K01, .agg answC)] :: BytesA v1 (pkC 0 1 []) :: NodeZ DeskA a.n0 1 (c0 + 1) (u0 + 300) [(1, 3), (2, 3)] 2 1 stk1 :: r) w
 | 5, w => ∃ wy v2, St (WoA a wy ak :: LtA wy 1 (ltr 1 0 v2) :: NbA a :: NodeZ DeskA a.n0 1 (c0 + 1 + 1) (u0 + 300 + 300) [(2, 3)] 2 1 stk1 :: NodeU DeskA a.n1 1 (c1 + 1 + 1 + 1) (u1 + 300 + 300 + 300) [] 1 2 [] :: BytesA v2 (pkC 0 2 []) :: MapA strK 67 a.am [(K01, .agg answC)] :: r) w
 | _ + 6, w => ∃ wy, St (WoA a wy ak :: LtA wy 0 [] :: NbA a :: NodeZ DeskA a.n0 1 (c0 + 1 + 1 + 1) (u0 + 300 + 300 + 300) [] 2 1 stk1 :: NodeU DeskA a.n1 1 (c1 + 1 + 1 + 1) (u1 + 300 + 300 + 300) [] 1 2 [] :: MapA strK 67 a.am [(K01, .agg answC)] :: r) w
def Go1 (a : Wd) (N : World → Prop) (w : World) : Prop :=
 ∃ A m d k tt U q c, 1 ≤ m ∧ m ≤ 4 ∧ w.cell? ⟨a.wb, 5, none⟩ = some (.slice A m d) ∧ Calls Tryz.prog 40 #[ptr a.wb, vO] w fun e w' => e = .returned (.agg #[vI k, vI tt, .slice U q c]) ∧
   Calls Tryz.prog 39 #[ptr a.wb, .agg #[vI k, vI tt, .slice U q c]] w' fun e w'' => e = .returned (.tuple #[]) ∧ N w''
section
variable {a : Wd} {ak : Value} {c0 c1 u0 u1 : Nat} {r : List As} {w : World}
theorem step0 (hc : 2 ≤ a.nc) (hu0 : u0 ≤ 31000) (hc0 : c0 ≤ 60) (hu1 : u1 ≤ 31000) (hc1 : c1 ≤ 60) (h : Rd a ak c0 c1 u0 u1 r 0 w) : Go1 a (Rd a ak c0 c1 u0 u1 r 1) w := by
 obtain ⟨wy, bv, s5⟩ := h; obtain ⟨A0, C0, rfl, -⟩ := (s5.by 4 rfl).form; obtain ⟨Al, dl, rfl, -⟩ := (Sl.of_own (s5.own 1 rfl)).at_; refine ⟨Al, 1, dl, 1, 0, A0, (pkC 1 0 codeQ).length, C0, by omega, by omega, (s5.ob (b := a.wb) 0 rfl).k 5 rfl, (wtake_calls (n := 0) (xs := []) (by omega) rfl (by simp [Value.oneCell']) (del_seg0 _ _ _) s5).mono ?_⟩; rintro e V1 ⟨rfl, wy1, t1⟩; have t2 := t1; refine ⟨rfl, (arr_q hc (by omega) (by omega) (by omega) t2).mono ?_⟩; rintro e X1 ⟨rfl, x1, b1, b2, b3, s6⟩; exact ⟨rfl, x1, b1, b2, b3, s6⟩
theorem step1 (hc : 2 ≤ a.nc) (hu0 : u0 ≤ 31000) (hc0 : c0 ≤ 60) (hu1 : u1 ≤ 31000) (hc1 : c1 ≤ 60) (h : Rd a ak c0 c1 u0 u1 r 1 w) : Go1 a (Rd a ak c0 c1 u0 u1 r 2) w := by
 obtain ⟨wy, b1, b2, b3, s5⟩ := h; obtain ⟨A0, C0, rfl, -⟩ := (s5.by 4 rfl).form; obtain ⟨A1, C1, rfl, -⟩ := (s5.by 5 rfl).form; obtain ⟨A2, C2, rfl, -⟩ := (s5.by 6 rfl).form; obtain ⟨Al, dl, rfl, -⟩ := (Sl.of_own (s5.own 1 rfl)).at_; refine ⟨Al, 3, dl, 0, 1, A0, (pkC 1 1 codeN).length, C0, by omega, by omega, (s5.ob (b := a.wb) 0 rfl).k 5 rfl, (wtake_calls (n := 2) (xs := (ltr 0 1 (.slice A1 _ C1) ++ ltr 0 1 (.slice A2 _ C2))) (by omega) rfl (by simp [Value.oneCell']) (del_seg2 _ _ _ _ _ _ _ _ _) s5).mono ?_⟩; rintro e V1 ⟨rfl, wy1, t1⟩; have t2 := ((t1).take [0, 0, 0, 4, 1, 0, 0, 0]); simp only [takeOut, zzD, zzE, zzF, zzG, zzH, zzI] at t2; refine ⟨rfl, (arr_n hc (by omega) (by omega) (by omega) t2).mono ?_⟩; rintro e X1 ⟨rfl, x1, v1, s6⟩; exact ⟨rfl, x1, _, _, v1, s6⟩
theorem step2 (hc : 2 ≤ a.nc) (hu0 : u0 ≤ 31000) (hc0 : c0 ≤ 60) (hu1 : u1 ≤ 31000) (hc1 : c1 ≤ 60) (h : Rd a ak c0 c1 u0 u1 r 2 w) : Go1 a (Rd a ak c0 c1 u0 u1 r 3) w := by
 obtain ⟨wy, b2, b3, v1, s5⟩ := h; obtain ⟨A0, C0, rfl, -⟩ := (s5.by 6 rfl).form; obtain ⟨A1, C1, rfl, -⟩ := (s5.by 7 rfl).form; obtain ⟨A2, C2, rfl, -⟩ := (s5.by 4 rfl).form; obtain ⟨Al, dl, rfl, -⟩ := (Sl.of_own (s5.own 1 rfl)).at_; refine ⟨Al, 3, dl, 0, 1, A0, (pkC 2 1 codeY).length, C0, by omega, by omega, (s5.ob (b := a.wb) 0 rfl).k 5 rfl, (wtake_calls (n := 2) (xs := (ltr 0 1 (.slice A1 _ C1) ++ ltr 1 0 (.slice A2 _ C2))) (by omega) rfl (by simp [Value.oneCell']) (del_seg2 _ _ _ _ _ _ _ _ _) s5).mono ?_⟩; rintro e V1 ⟨rfl, wy1, t1⟩; have t2 := ((t1).take [0, 0, 0, 0, 2, 3, 0, 0, 0]); simp only [takeOut, zzD, zzE, zzF, zzG, zzH, zzI] at t2; refine ⟨rfl, (arr_y hc (by omega) (by omega) (by omega) t2).mono ?_⟩; rintro e X1 ⟨rfl, x1, v2, s6⟩; exact ⟨rfl, x1, _, _, v2, s6⟩
theorem step3 (hc : 2 ≤ a.nc) (hu0 : u0 ≤ 31000) (hc0 : c0 ≤ 60) (hu1 : u1 ≤ 31000) (hc1 : c1 ≤ 60) (h : Rd a ak c0 c1 u0 u1 r 3 w) : Go1 a (Rd a ak c0 c1 u0 u1 r 4) w := by
 obtain ⟨wy, b3, v1, v2, s5⟩ := h; obtain ⟨A0, C0, rfl, -⟩ := (s5.by 8 rfl).form; obtain ⟨A1, C1, rfl, -⟩ := (s5.by 6 rfl).form; obtain ⟨A2, C2, rfl, -⟩ := (s5.by 4 rfl).form; obtain ⟨Al, dl, rfl, -⟩ := (Sl.of_own (s5.own 1 rfl)).at_; refine ⟨Al, 3, dl, 0, 1, A0, (pkC 0 1 []).length, C0, by omega, by omega, (s5.ob (b := a.wb) 0 rfl).k 5 rfl, (wtake_calls (n := 2) (xs := (ltr 1 0 (.slice A1 _ C1) ++ ltr 1 0 (.slice A2 _ C2))) (by omega) rfl (by simp [Value.oneCell']) (del_seg2 _ _ _ _ _ _ _ _ _) s5).mono ?_⟩; rintro e V1 ⟨rfl, wy1, t1⟩; have t2 := ((t1).take [0, 0, 0, 0, 4, 0, 0, 0, 0]); simp only [takeOut, zzD, zzE, zzF, zzG, zzH, zzI] at t2; refine ⟨rfl, (arr_k1 hc (by omega) (by omega) (by omega) (by omega) (fun _ => ldel_0) t2).mono ?_⟩; rintro e X1 ⟨rfl, s6⟩; exact ⟨rfl, _, _, _, s6⟩
theorem step4 (hc : 2 ≤ a.nc) (hu0 : u0 ≤ 31000) (hc0 : c0 ≤ 60) (hu1 : u1 ≤ 31000) (hc1 : c1 ≤ 60) (h : Rd a ak c0 c1 u0 u1 r 4 w) : Go1 a (Rd a ak c0 c1 u0 u1 r 5) w := by
 obtain ⟨wy, v1, v2, s5⟩ := h; obtain ⟨A0, C0, rfl, -⟩ := (s5.by 6 rfl).form; obtain ⟨A1, C1, rfl, -⟩ := (s5.by 4 rfl).form; obtain ⟨Al, dl, rfl, -⟩ := (Sl.of_own (s5.own 1 rfl)).at_; refine ⟨Al, 2, dl, 1, 0, A0, (pkC 0 1 []).length, C0, by omega, by omega, (s5.ob (b := a.wb) 0 rfl).k 5 rfl, (wtake_calls (n := 1) (xs := (ltr 1 0 (.slice A1 _ C1))) (by omega) rfl (by simp [Value.oneCell']) (del_seg1 _ _ _ _ _ _) s5).mono ?_⟩; rintro e V1 ⟨rfl, wy1, t1⟩; have t2 := ((t1).take [0, 0, 0, 4, 3, 0, 0, 0]); simp only [takeOut, zzD, zzE, zzF, zzG, zzH, zzI] at t2; refine ⟨rfl, (arr_k0 hc (by omega) (by omega) (by omega) (by omega) (fun _ => ldel_21) t2).mono ?_⟩; rintro e X1 ⟨rfl, s6⟩; exact ⟨rfl, _, _, s6⟩
theorem step5 (hc : 2 ≤ a.nc) (hu0 : u0 ≤ 31000) (hc0 : c0 ≤ 60) (hu1 : u1 ≤ 31000) (hc1 : c1 ≤ 60) (h : Rd a ak c0 c1 u0 u1 r 5 w) : Go1 a (Rd a ak c0 c1 u0 u1 r 6) w := by
 obtain ⟨wy, v2, s5⟩ := h; obtain ⟨A0, C0, rfl, -⟩ := (s5.by 5 rfl).form; obtain ⟨Al, dl, rfl, -⟩ := (Sl.of_own (s5.own 1 rfl)).at_; refine ⟨Al, 1, dl, 1, 0, A0, (pkC 0 2 []).length, C0, by omega, by omega, (s5.ob (b := a.wb) 0 rfl).k 5 rfl, (wtake_calls (n := 0) (xs := []) (by omega) rfl (by simp [Value.oneCell']) (del_seg0 _ _ _) s5).mono ?_⟩; rintro e V1 ⟨rfl, wy1, t1⟩; have t2 := ((t1).take [0, 0, 0, 0, 1, 0, 0]); simp only [takeOut, zzD, zzE, zzF, zzG, zzH, zzI] at t2; refine ⟨rfl, (arr_k0 hc (by omega) (by omega) (by omega) (by omega) (fun _ => ldel_1) t2).mono ?_⟩; rintro e X1 ⟨rfl, s6⟩; exact ⟨rfl, _, s6⟩
theorem step_any (hc : 2 ≤ a.nc) (hu0 : u0 ≤ 31000) (hc0 : c0 ≤ 60) (hu1 : u1 ≤ 31000) (hc1 : c1 ≤ 60) {k : Nat} (hk : k < 6) (h : Rd a ak c0 c1 u0 u1 r k w) : Go1 a (Rd a ak c0 c1 u0 u1 r (k + 1)) w := by
 have h6 : k = 0 ∨ k = 1 ∨ k = 2 ∨ k = 3 ∨ k = 4 ∨ k = 5 := by omega
 clear hk; rcases h6 with rfl | rfl | rfl | rfl | rfl | rfl
 · exact step0 hc hu0 hc0 hu1 hc1 h
 · exact step1 hc hu0 hc0 hu1 hc1 h
 · exact step2 hc hu0 hc0 hu1 hc1 h
 · exact step3 hc hu0 hc0 hu1 hc1 h
 · exact step4 hc hu0 hc0 hu1 hc1 h
 · exact step5 hc hu0 hc0 hu1 hc1 h
end
end
section
open Go.RowKit Go.Maps
open Ce It Al Kp
theorem wround_calls {a : Wd} {wy ak bv : Value} {c0 c1 u0 u1 : Nat} {r : List As} {w : World} (hc : 2 ≤ a.nc) (hu0 : u0 ≤ 30000) (hc0 : c0 ≤ 50) (hu1 : u1 ≤ 30000) (hc1 : c1 ≤ 50)
   (h : St (WoA a wy ak :: LtA wy 1 (ltr 1 0 bv) :: NbA a :: NodeZ DeskN a.n0 0 c0 u0 [] 0 0 [] :: NodeU DeskN a.n1 0 c1 u1 [(1, 2)] 1 0 [] :: BytesA bv (pkC 1 0 codeQ) :: MapA strK 67 a.am [] :: r) w) :
   Calls Tryz.prog 15 #[ptr a.wb] w fun e w' => e = .returned (.tuple #[]) ∧ Rd a ak (c0 + 1) (c1 + 1) (u0 + 300) (u1 + 300) r 6 w' := by
 have oN := h.ob (b := a.nb) 2 rfl; have n0 := oN.k 0 rfl; have n1 := oN.k 1 rfl; have g4 := (h.ob (b := a.wb) 0 rfl).k 4 rfl; have s1 := ((h).take [3, 0, 0, 0, 0, 0, 0]); simp only [takeOut, zzD, zzE, zzF, zzG, zzH, zzI] at s1; have cT := hdd (ztick_calls s1 (by omega) (by omega)); clear h oN s1
 go_enter Tryz.func15, Tryz.ntmps15
 go_wp2; refine wp_loop_rounds 3 ?_; rw [rounds_succ]; go_wp2_with fail; refine cT.out.mono ?_; rintro e W1 ⟨rfl, s2⟩; clear cT n0 n1 g4; go_wp2_with fail; refine wsend_nil.mono ?_; rintro e W ⟨rfl, rfl⟩; have n1 := (s2.ob (b := a.nb) 3 rfl).k 1 rfl; have s3 := ((s2).take [4, 0, 0, 0, 0, 0, 0]); simp only [takeOut, zzD, zzE, zzF, zzG, zzH, zzI] at s3; have cT := hdd (utick_calls s3 (by omega) (by omega)); clear s2 s3; go_wp2; rw [rounds_succ]; go_wp2_with fail; refine cT.out.mono ?_; rintro e W2 ⟨rfl, s4⟩; clear cT n1; go_wp2_with fail; refine wsend_nil.mono ?_; rintro e W ⟨rfl, rfl⟩; have s5 := ((s4).take [2, 2, 2, 1, 1, 0, 0]); simp only [takeOut, zzD, zzE, zzF, zzG, zzH, zzI] at s5; have HR : Rd a ak (c0 + 1) (c1 + 1) (u0 + 300) (u1 + 300) r 0 W2 := ⟨_, _, s5⟩; clear s4 s5; go_wp2; rw [rounds_succ]; go_wp2
 go_loopw [28] (fun i wr => ∃ k : Nat, k ≤ 6 ∧ i = vI k ∧ Rd a ak (c0 + 1) (c1 + 1) (u0 + 300) (u1 + 300) r k wr) (fun i _ => 7 - (intOf i).toNat)
 case atStart => exact ⟨0, by omega, rfl, HR⟩
 case round =>
   obtain ⟨k, hk, rfl, hR⟩ := hrel; clear HR
   by_cases h6 : k = 6
   · subst h6
     have hR2 := hR; obtain ⟨wy9, s9⟩ := hR2; obtain ⟨A7, d7, rfl, -⟩ := (Sl.of_own (s9.own 1 rfl)).at_; have g5 : wr.cell? ⟨a.wb, 5, none⟩ = some (.slice A7 0 d7) := (s9.ob (b := a.wb) 0 rfl).k 5 rfl; clear s9; have HR := hdd hR; have hd : decide (((6 : Nat) : Int) < 4096) = true := by decide
     clear hR hk; go_wp2; refine bodyPost_ret (results_none rfl _ _ _) rfl ?_; exact ⟨rfl, HR.out⟩
   · obtain ⟨A, m, d, k1, tt, U, q, c, hm1, hm2, g5, cK⟩ := step_any hc (by omega) (by omega) (by omega) (by omega) (show k < 6 by omega) hR
     have hz : (((m : Nat) : Int) == 0) = false := by simp; omega
     have hd : decide ((k : Int) < 4096) = true := by simp; omega
     have CK := hdd cK; have hk6 : k < 6 := by omega
     clear hR cK hm1 hm2 h6 hk; go_wp2_with fail; refine CK.out.mono ?_; rintro e V1 ⟨rfl, cA⟩; have CA := hdd cA; clear cA CK; go_wp2_with fail; refine CA.out.mono ?_; rintro e V2 ⟨rfl, hR2⟩; have HR2 := hdd hR2; clear hR2 CA g5; go_wp2
     go_roundw
     case rel => exact ⟨k + 1, by omega, by go_num, HR2.out⟩
     case measure => simp [intOf]; omega
end
end Tp
end Go.Proofs.YtgcnhmjpfbbfcaaGreat
