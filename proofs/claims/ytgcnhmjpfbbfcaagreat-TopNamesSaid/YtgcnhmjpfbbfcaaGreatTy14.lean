/-
  part of the proof of TopNames.
-/
import Derived.Test.YtgcnhmjpfbbfcaaGreatTy13
import Derived.Test.YtgcnhmjpfbbfcaaGreatTy12
import Derived.Laws.EntriesVeiled
set_option linter.unusedVariables false
set_option linter.unusedSimpArgs false
set_option maxRecDepth 100000
set_option maxHeartbeats 8000000
namespace Go.Proofs.YtgcnhmjpfbbfcaaGreat
namespace Tp
section
open Go.RowKit Go.Maps
theorem word_calls (b : Nat) (m : Int) (w : World) (h : StAt w b) : Calls Tryz.prog 424 #[.pointer (some ⟨b, 0, none⟩), .int .u64 m] w fun e w' => e = .returned (.tuple #[]) ∧ StAt w' b ∧ w.grownBy w' (some b) := by
 obtain ⟨x0, x1, x2, x3, h0⟩ := h; have c3 := h0.k 3 rfl; have f3 := h0.frozen 3
 go_enter Tryz.func424, Tryz.ntmps424
 go_wp2_with fail; obtain ⟨s1, g1⟩ := StAt.put0 h0 3 (by omega) (bits .xor .u64 x3 m); refine (round_calls b _ s1).mono ?_; clear c3 f3 h0; rintro e w1 ⟨rfl, s2, g2⟩; have g2 := g1.trans g2; clear g1 s1; go_wp2_with fail; refine (round_calls b _ s2).mono ?_; rintro e w2 ⟨rfl, s3, g3⟩; have g3 := g2.trans g3; clear g2 s2; obtain ⟨y0, y1, y2, y3, h1⟩ := s3; have c0 := h1.k 0 rfl; have f0 := h1.frozen 0; go_wp2
 first | go_end0 | go_ret
 exact ⟨rfl, (StAt.put0 h1 0 (by omega) _).1, g3.trans (StAt.put0 h1 0 (by omega) _).2⟩
end
section
open Go.RowKit Go.Maps
open Ce
theorem mix_calls (sl : Int) (l : List UInt8) (v : Value) (w : World) (h : BytesAt w 0 w.heap.size v l) :
   Calls Tryz.prog 370 #[.int .u64 sl, v] w fun e w' => (∃ y, e = .returned (.int .u64 y)) ∧ Below w.heap.size w w' := by
 obtain ⟨A, c, rfl, hlc, hcm⟩ := h.form; have hl : l.length ≤ 9223372036854775807 := by unfold maxLen at hcm; omega
 have HV := hdd h; clear h
 go_enter Tryz.func370, Tryz.ntmps370
 go_wp2; have s0 : StAt (w.alloc (.cells #[.int .u64 (bits .xor .u64 sl 8317987319222330741), .int .u64 368457802846855779, .int .u64 (bits .xor .u64 sl 7816392313619706465), .int .u64 1519701440043968637] 538)) w.heap.size := ⟨_, _, _, _, Ob.new _ _ _⟩
 go_loopw [6, 7, 8, 17] (fun m i x k wr => ∃ j : Nat, j ≤ l.length ∧ k = vI j ∧ (∃ y, m = .int .u64 y) ∧ StAt wr w.heap.size ∧ Below w.heap.size w wr) (fun _ _ _ k _ => l.length - (intOf k).toNat)
 case atStart => exact ⟨0, by omega, rfl, ⟨_, rfl⟩, s0, (Below.refl _ w).alloc (Nat.le_refl _) _⟩
 case round =>
   obtain ⟨j, hj, rfl, ⟨y, rfl⟩, hs, hB⟩ := hrel; have hv := HV.out.below hB
   by_cases hlt : j < l.length
   · have hc := hv.cellAt hlt
     have hd : decide (j < l.length) = true := by simpa using hlt
     obtain ⟨bb, oo, rfl, -, -, hc⟩ := hc
     by_cases h7 : (j : Int) % 8 = 7
     · go_wp2_with fail
       refine (word_calls _ _ _ hs).mono ?_; rintro e w1 ⟨rfl, hs1, hg1⟩; have hB1 := hB.grown hg1 hB.size (by rintro k ⟨⟩; exact Nat.le_refl _); go_wp2
       go_roundw
       case rel => exact ⟨j + 1, by omega, by go_num, ⟨_, rfl⟩, hs1, hB1⟩
       case measure => simp [intOf]; omega
     · go_wp2
       go_roundw
       case rel => exact ⟨j + 1, by omega, by go_num, ⟨_, rfl⟩, hs, hB⟩
       case measure => simp [intOf]; omega
   · obtain rfl : j = l.length := by omega
     have hd : decide (l.length < l.length) = false := by simp
     clear hv; go_wp2_with fail; refine (word_calls _ _ _ hs).mono ?_; rintro e w1 ⟨rfl, hs1, hg1⟩; have hB1 := hB.grown hg1 hB.size (by rintro k ⟨⟩; exact Nat.le_refl _); clear hg1 hs hB; obtain ⟨x0, x1, x2, x3, h1⟩ := hs1; have c2 := h1.k 2 rfl; have f2 := h1.frozen 2; go_wp2; have hp := fun y => StAt.put0 h1 2 (by omega) y
     go_loopw [52] (fun k wr => ∃ j : Nat, j ≤ 4 ∧ k = vI j ∧ StAt wr w.heap.size ∧ Below w.heap.size w wr) (fun k _ => 4 - (intOf k).toNat)
     case atStart => exact ⟨0, by omega, rfl, (hp _).1, hB1.grown (hp _).2 hB1.size (by rintro k ⟨⟩; exact Nat.le_refl _)⟩
     case round =>
       clear hp c2 f2 h1 hB1; obtain ⟨j, hj, rfl, hs, hB⟩ := hrel
       by_cases hlt : j < 4
       · go_wp2_with fail
         refine (round_calls _ _ hs).mono ?_; rintro e w1 ⟨rfl, hs1, hg1⟩; have hB1 := hB.grown hg1 hB.size (by rintro k ⟨⟩; exact Nat.le_refl _); go_wp2
         go_roundw
         case rel => exact ⟨j + 1, by omega, by go_num, hs1, hB1⟩
         case measure => simp [intOf]; omega
       · obtain rfl : j = 4 := by omega
         obtain ⟨x0, x1, x2, x3, h1⟩ := hs; have ⟨c0, c1, c2, c3⟩ := h1.k4 rfl rfl rfl rfl; have HB := hdd hB; clear hB; go_wp2
         go_quiet (fail)
         go_wp2; go_ret; exact ⟨⟨_, rfl⟩, ⟨HB.out.os, HB.out.tape, HB.out.output, HB.out.size, HB.out.block⟩⟩
end
end Tp
namespace It
section
open Go.RowKit
end
end It
namespace Mv
section
open Go.RowKit Go.Maps
open It
section
variable {κ : Type} [DecidableEq κ] {K : KeyK κ} {P : Program} {w : World} {b : Nat} {m : List (κ × Value)} {ops : Array Oper} {rest : List Oper} {o : Oper} {a : Act} {Q : Exit → Act → World → Prop}
end
structure Way where
 mv : Int
 fr : Int
 to_ : Int
 l : List It.Item
 came : Bool
def wayV (d : Way) (v : Value) : Value := .agg #[vI d.mv, vI d.fr, vI d.to_, v, .bool d.came]
def WayAt (w : World) (F : Nat → Prop) (val : Value) (d : Way) : Prop := ∃ v lo B, val = wayV d v ∧ ItemsAt w lo B v d.l ∧ B ≤ w.heap.size ∧ ∀ i, lo ≤ i → i < B → F i
theorem WayAt.kept {w w' : World} {F F' : Nat → Prop} {val : Value} {d : Way} {row : Option Nat} (h : WayAt w F val d) (hg : w.grownBy w' row) (hr : ∀ g, row = some g → ¬ F g ∨ w.heap.size ≤ g) (hF : ∀ i, i < w.heap.size → F i → F' i) : WayAt w' F' val d := by
 obtain ⟨v, lo, B, e, h1, h2, h3⟩ := h; refine ⟨v, lo, B, e, h1.keep fun b o hb1 hb2 => World.cell?_of_block (hg.block b (by omega) fun e => ?_), Nat.le_trans h2 hg.size, fun i a b => hF i (by omega) (h3 i a b)⟩; rcases hr b e.symm with h | h
 · exact h (h3 b hb1 hb2)
 · omega
def Rel (w : World) (F : Nat → Prop) : List (Int × Value) → List Way → Prop
 | [], [] => True
 | p :: m, d :: ds => p.1 = d.mv ∧ WayAt w F p.2 d ∧ Rel w F m ds
 | _, _ => False
theorem Rel.kept {w w' : World} {F F' : Nat → Prop} {row : Option Nat} (hg : w.grownBy w' row) (hr : ∀ g, row = some g → ¬ F g ∨ w.heap.size ≤ g) (hF : ∀ i, i < w.heap.size → F i → F' i) : ∀ {m : List (Int × Value)} {ds : List Way}, Rel w F m ds → Rel w' F' m ds
 | [], [], _ => trivial
 | _ :: _, _ :: _, h => ⟨h.1, h.2.1.kept hg hr hF, Rel.kept hg hr hF h.2.2⟩
 | [], _ :: _, h => h.elim
 | _ :: _, [], h => h.elim
theorem Rel.length {w : World} {F : Nat → Prop} : ∀ {m : List (Int × Value)} {ds : List Way}, Rel w F m ds → m.length = ds.length
 | [], [], _ => rfl
 | _ :: _, _ :: _, h => congrArg (· + 1) (Rel.length h.2.2)
 | [], _ :: _, h => h.elim
 | _ :: _, [], h => h.elim
theorem Rel.keys {w : World} {F : Nat → Prop} : ∀ {m : List (Int × Value)} {ds : List Way}, Rel w F m ds → m.map (·.1) = ds.map (·.mv)
 | [], [], _ => rfl
 | _ :: _, _ :: _, h => by simp only [List.map_cons]; rw [h.1, Rel.keys h.2.2]
 | [], _ :: _, h => h.elim
 | _ :: _, [], h => h.elim
def findW (ds : List Way) (k : Int) : Option Way := ds.find? fun d => decide (d.mv = k)
theorem findW_cons (d : Way) (ds : List Way) (k : Int) : findW (d :: ds) k = if d.mv = k then some d else findW ds k := by
 unfold findW; rw [List.find?_cons]
 by_cases h : d.mv = k <;> simp [h]
theorem Rel.none {w : World} {F : Nat → Prop} {k : Int} : ∀ {m : List (Int × Value)} {ds : List Way}, Rel w F m ds → findW ds k = none → mGet m k = none
 | [], [], _, _ => rfl
 | p :: m, d :: ds, h, hf => by
   rw [findW_cons] at hf; rw [mGet_cons]
   by_cases e : d.mv = k
   · rw [if_pos e] at hf; cases hf
   · rw [if_neg e] at hf
     rw [if_neg (by rw [h.1]; exact e)]; exact Rel.none h.2.2 hf
 | [], _ :: _, h, _ => h.elim
 | _ :: _, [], h, _ => h.elim
theorem Rel.some {w : World} {F : Nat → Prop} {k : Int} {d : Way} : ∀ {m : List (Int × Value)} {ds : List Way}, Rel w F m ds → findW ds k = some d → ∃ val, mGet m k = some val ∧ WayAt w F val d
 | [], [], _, h => by cases h
 | p :: m, c :: ds, h, hf => by
   rw [findW_cons] at hf; rw [mGet_cons]
   by_cases e : c.mv = k
   · rw [if_pos e] at hf
     cases hf
     rw [if_pos (by rw [h.1]; exact e)]; exact ⟨_, rfl, h.2.1⟩
   · rw [if_neg e] at hf
     rw [if_neg (by rw [h.1]; exact e)]; exact Rel.some h.2.2 hf
 | [], _ :: _, h, _ => h.elim
 | _ :: _, [], h, _ => h.elim
def insW (d : Way) : List Way → List Way
 | [] => [d]
 | c :: r => if d.mv < c.mv then d :: c :: r else c :: insW d r
def delW (ds : List Way) (k : Int) : List Way := ds.filter fun d => !decide (d.mv = k)
def putW (ds : List Way) (d : Way) : List Way := insW d (delW ds d.mv)
theorem Rel.del {w : World} {F : Nat → Prop} (k : Int) : ∀ {m : List (Int × Value)} {ds : List Way}, Rel w F m ds → Rel w F (mDel m k) (delW ds k)
 | [], [], _ => trivial
 | p :: m, d :: ds, h => by
   have ih := Rel.del k h.2.2; unfold mDel delW at ih ⊢; rw [List.filter_cons, List.filter_cons, h.1]
   split
   · exact ⟨h.1, h.2.1, ih⟩
   · exact ih
 | [], _ :: _, h => h.elim
 | _ :: _, [], h => h.elim
theorem Rel.ins {w : World} {F : Nat → Prop} {d : Way} {val : Value} (hv : WayAt w F val d) : ∀ {m : List (Int × Value)} {ds : List Way}, Rel w F m ds → Rel w F (mIns intK d.mv val m) (insW d ds)
 | [], [], _ => ⟨rfl, hv, trivial⟩
 | p :: m, c :: ds, h => by
   unfold mIns insW; have e : intK.lt d.mv p.1 = decide (d.mv < c.mv) := by rw [h.1]; rfl
   rw [e]
   by_cases hlt : d.mv < c.mv
   · rw [if_pos (by simpa using hlt), if_pos hlt]
     exact ⟨rfl, hv, h⟩
   · rw [if_neg (by simpa using hlt), if_neg hlt]
     exact ⟨h.1, h.2.1, Rel.ins hv h.2.2⟩
 | [], _ :: _, h => h.elim
 | _ :: _, [], h => h.elim
theorem Rel.put {w : World} {F : Nat → Prop} {d : Way} {val : Value} (hv : WayAt w F val d) {m : List (Int × Value)} {ds : List Way} (h : Rel w F m ds) : Rel w F (mPut intK m d.mv val) (putW ds d) :=
 Rel.ins hv (Rel.del _ h)
theorem keyedI : Keyed Tryz.prog 3 := int_keyed Tryz.underlying3
theorem keyI {k : Int} (h0 : -9223372036854775808 ≤ k) (h1 : k ≤ 9223372036854775807) : keyOf Tryz.prog 3 (vI k) = some (intK.lit k) :=
 keyOf_int_mk Tryz.underlying3 (WalkArith.wf_i64 (by omega))
theorem clonei_calls (l : List It.Item) (v : Value) (w : World) (h : ItemsAt w 0 w.heap.size v l) (hl : l.length ≤ 1000000) :
   Calls Tryz.prog 149 #[v] w fun e w' => (∃ v', e = .returned v' ∧ w'.ownsRow w.heap.size 29 2 v' l.length (itemCells l)) ∧ Below w.heap.size w w' := by
 obtain ⟨i0, hi0, hz0, hz1, hz2⟩ := inf3 item_info; have h0 := h; obtain ⟨A, c, rfl, hc1, hc2⟩ := h.form; unfold maxLen at hc2; have heq := Lib.run_eql_slice_nil (P := Tryz.prog) w 30 29 A l.length c 0 0 Tryz.underlying30; rcases A with _ | ad
 · have hl0 : l = [] := by
     rcases l with _ | ⟨x, r⟩
     · rfl
     · obtain ⟨b, o, e, _⟩ := h.cellAt (j := 0) (by simp)
       cases e
   subst hl0; simp only [List.length_nil] at heq ⊢
   go_enter Tryz.func149, Tryz.ntmps149
   go_wp2; go_ret; exact ⟨⟨_, rfl, World.ownsRow_nil _ _ _ _⟩, Below.refl _ _⟩
 · go_enter Tryz.func149, Tryz.ntmps149
   go_wp2_with (at_builtin
                refine wpList_append_sl _ rfl (.tmp 5) (.tmp 6) _ rfl w.heap.size 29 i0 _ 2 24 Tryz.underlying30 hi0 hz0 hz1 hz2 rfl (by omega) (.slice (some ⟨w.heap.size, 0, none⟩) 0 0) 0 [] rfl (World.ownsRow_lit w #[] 0 (Nat.le_refl _) (Nat.zero_le _) rfl) 0 w.heap.size _ l.length (itemCells l) rfl (Sl.below h0 ((Below.refl _ w).alloc (Nat.le_refl _) _)) (itemCells_one l) (by unfold maxLen; omega) (by omega) (by simp) ?_; intro v1 w1 hv1 hg1 hat1; have hB : Below w.heap.size w w1 := ((Below.refl _ w).alloc (Nat.le_refl _) (.cells #[] 29)).grown hg1 (by simp) (fun g hg => by cases hg; exact Nat.le_refl _); clear hg1 hat1)
   have hown : w1.ownsRow w.heap.size 29 2 v1 l.length (itemCells l) := by simpa using hv1
   obtain ⟨A1, c1, rfl, -⟩ := (ItemsAt.of_own hown).form; clear hv1; go_wp2; go_ret; exact ⟨⟨_, rfl, hown⟩, hB⟩
end
end Mv
namespace Tp
section
open Go.RowKit Go.Maps
open Ce
theorem ident_new {r : List As} {w : World} (h : St r w) : Calls Tryz.prog 99 #[] w fun e w' => ∃ tb, e = .returned (ptr tb) ∧ St (TabA tb :: r) w' := by
 have hmm := @run_makeMap Tryz.prog; have s := (h.mapNew intK 3).obNew 275 #[.map (some w.heap.size)]; rw [World.size_alloc] at s; clear h
 go_enter Tryz.func99, Tryz.ntmps99
 go_wp2; go_ret; exact ⟨_, rfl, (St.pack (P := fun cm : Nat => sepA [ObA (w.heap.size + 1) 275 #[.map (some cm)], MapA intK 3 cm []]) w.heap.size (St.fold (l := [_, _]) s) : St (TabA (w.heap.size + 1) :: r) _)⟩
theorem imade_calls (tb cm : Nat) (w : World) (h : w.cell? ⟨tb, 0, none⟩ = some (.map (some cm))) : Calls Tryz.prog 244 #[ptr tb] w fun e w' => e = .returned (.bool true) ∧ w = w' := by
 have hn := fun (w : World) (r : Option Nat) => run_neq_map_nil (P := Tryz.prog) w 273 _ _ r Tryz.underlying273
 go_enter Tryz.func244, Tryz.ntmps244
 go_wp2; go_ret; exact ⟨rfl, rfl⟩
theorem isclient_calls (w : World) : Calls Tryz.prog 367 #[vO] w fun e w' => e = .returned (.bool true) ∧ w = w' := by
 go_enter Tryz.func367, Tryz.ntmps367
 go_wp2; go_ret; exact ⟨rfl, rfl⟩
theorem isnumber_calls (w : World) : Calls Tryz.prog 368 #[vI 1] w fun e w' => e = .returned (.bool true) ∧ w = w' := by
 go_enter Tryz.func368, Tryz.ntmps368
 go_wp2; go_ret; exact ⟨rfl, rfl⟩
abbrev cl0 : Value := .agg #[vO, .map none]
abbrev row0 : Value := .agg #[.int .u64 0, .bool false, vO, vO, vO, vO]
theorem zero_cl (w : World) : (zeroValue 357).run Tryz.prog w = .ok cl0 w := by kernel_rfl
theorem zero_row (w : World) : (zeroValue 359).run Tryz.prog w = .ok row0 w := by kernel_rfl
theorem client_new {tb cm : Nat} {r : List As} {w : World} (h : St (ObA tb 275 #[.map (some cm)] :: MapA intK 3 cm [] :: r) w) :
   Calls Tryz.prog 369 #[ptr tb, vO] w fun e w' => ∃ rm, e = .returned (.agg #[vI 1, .map (some rm)]) ∧ St (MapA intK 3 rm [] :: ObA tb 275 #[.map (some cm)] :: MapA intK 3 cm [] :: r) w' := by
 have hmm := @run_makeMap Tryz.prog; have s1 := h.alloc (.cells #[vO, .map none] 357); have hl := (s1.gmap (t := 3) 1 rfl).look_ok (tm := 273) Mv.keyedI Tryz.underlying273 (zero_cl _) (key := vO) (k := 0) (Mv.keyI (by omega) (by omega)); rw [show (mGet ([] : List (Int × Value)) 0).getD cl0 = cl0 from rfl, show (mGet ([] : List (Int × Value)) 0).isSome = false from rfl] at hl; have c0 := (s1.ob 0 rfl).k 0 rfl
 go_enter Tryz.func369, Tryz.ntmps369
 go_wp2; have s9 := ((h.alloc (.cells #[vI 1, .map (some (w.heap.size + 1 + 1))] 357)).alloc (.cells #[vI 1, .map (some (w.heap.size + 1 + 1))] 357)).mapNew intK 3; simp only [World.size_alloc] at s9; refine bodyPost_ret (v := .agg #[vI 1, .map (some (w.heap.size + 1 + 1))]) ?_ rfl ⟨_, rfl, s9⟩; simp [results, Tryz.f369, go_sem]
theorem client_known {tb cm rm : Nat} {r : List As} {w : World} (h : St (ObA tb 275 #[.map (some cm)] :: MapA intK 3 cm [(0, .agg #[vI 1, .map (some rm)])] :: r) w) :
   Calls Tryz.prog 369 #[ptr tb, vO] w fun e w' => e = .returned (.agg #[vI 1, .map (some rm)]) ∧ Below w.heap.size w w' := by
 have s1 := h.alloc (.cells #[vO, .map none] 357); have hl := (s1.gmap (t := 3) 1 rfl).look_ok (tm := 273) Mv.keyedI Tryz.underlying273 (zero_cl _) (key := vO) (k := 0) (Mv.keyI (by omega) (by omega)); rw [show (mGet [((0 : Int), (.agg #[vI 1, .map (some rm)] : Value))] 0).getD cl0 = .agg #[vI 1, .map (some rm)] from rfl, show (mGet [((0 : Int), (.agg #[vI 1, .map (some rm)] : Value))] 0).isSome = true from rfl] at hl; have c0 := (s1.ob 0 rfl).k 0 rfl; clear h
 go_enter Tryz.func369, Tryz.ntmps369
 go_wp2; have hb := ((Below.refl w.heap.size w).alloc (Nat.le_refl _) (.cells #[vI 1, .map (some rm)] 357)).alloc (by simp) (.cells #[vI 1, .map (some rm)] 357); refine bodyPost_ret (v := .agg #[vI 1, .map (some rm)]) ?_ rfl ⟨rfl, hb⟩; simp [results, Tryz.f369, go_sem]
abbrev ans1 : Value := .agg #[vO, vI 1, vO, vO]
abbrev ans0 : Value := .agg #[vO, vO, vO, vO]
theorem task_calls {tb : Nat} {bv : Value} {r : List As} {w : World} (h : St (TabA tb :: BytesA bv bodyC :: r) w) :
   Calls Tryz.prog 288 #[ptr tb, vO, vI 1, bv] w fun e w' => e = .returned (.tuple #[vI 1, ans0]) ∧ St (TabB tb :: BytesA bv bodyC :: r) w' := by
 obtain ⟨cm, s0⟩ := h.ex; have s := s0.flat; simp only [zzH, zzI, zzG, zzF, List.length_cons, List.length_nil] at s; clear h s0; have s1 := (((s.obNew 39 #[vO, vO, vO, vO]).front 1 rfl).front 2 rfl).front 1 rfl; simp only [zzH, zzI, zzG, zzF, List.length_cons, List.length_nil] at s1; have c0 : _ = some (Value.map (some cm)) := (s1.ob (b := tb) 0 rfl).k 0 rfl; have cM := hdd (imade_calls tb cm _ c0); have hI := s1.by 3 rfl
 obtain ⟨A, c, rfl, -⟩ := hI.form; clear hI
 go_enter Tryz.func288, Tryz.ntmps288
 go_wp2_with (first
   | (go_at_call 244; (with_reducible refine (cM.out).mono ?_); rintro e W ⟨rfl, rfl⟩)
   | (go_at_call 367; (with_reducible refine (isclient_calls _).mono ?_); rintro e W ⟨rfl, rfl⟩)
   | (go_at_call 368; (with_reducible refine (isnumber_calls _).mono ?_); rintro e W ⟨rfl, rfl⟩)
   | (go_at_call 369; (with_reducible refine (client_new s1).mono ?_); rintro e W1 ⟨rm, rfl, s2⟩))
 refine (mix_calls 7 bodyC _ _ (s2.by 4 rfl)).mono ?_; rintro e W2 ⟨⟨y, rfl⟩, hb2⟩; have s3 := s2.same hb2; clear s1 s2 hb2 c0 cM; have s4 := s3.obNew 357 #[vI 1, .map (some rm)]; have hl := (s4.gmap (t := 3) 1 rfl).look_ok (tm := 355) Mv.keyedI Tryz.underlying355 (zero_row _) (key := vI 1) (k := 1) (Mv.keyI (by omega) (by omega)); rw [show (mGet ([] : List (Int × Value)) 1).getD row0 = row0 from rfl, show (mGet ([] : List (Int × Value)) 1).isSome = false from rfl] at hl; have s5 := s4.alloc (.cells #[.int .u64 0, .bool false, vO, vO, vO, vO] 359); obtain ⟨W3, hput, hM3, hg3⟩ := (s5.gmap (t := 3) 1 rfl).put (tm := 355) Mv.keyedI Tryz.underlying355 (by unfold maxLen; simp) (key := vI 1) (k := 1) (Mv.keyI (by omega) (by omega)) (val := .agg #[.int .u64 y, .bool false, vO, vO, vO, vO]); have hlen := fun ty => (s5.gmap (t := 3) 1 rfl).len (tm := 355) Tryz.underlying355 ty
 have s6 := (s5.front 1 rfl).map hM3 hg3; simp only [zzH, zzI, zzG, zzF, List.length_cons, List.length_nil] at s6; obtain ⟨W4, hput2, hM4, hg4⟩ := (s6.drew.gmap (t := 3) 3 rfl).put (tm := 273) Mv.keyedI Tryz.underlying273 (by unfold maxLen; simp) (key := vO) (k := 0) (Mv.keyI (by omega) (by omega)) (val := .agg #[vI 1, .map (some rm)]); have s7 := (s6.drew.front 3 rfl).map hM4 hg4; simp only [zzH, zzI, zzG, zzF, List.length_cons, List.length_nil] at s7; have c6 : W3.cell? ⟨tb, 0, none⟩ = some (.map (some cm)) := (s6.ob (b := tb) 2 rfl).k 0 rfl; have x0 : W3.cell? ⟨W2.heap.size, 0, none⟩ = some (vI 1) := (s6.ob (b := W2.heap.size) 1 rfl).k 0 rfl; have x1 : W3.cell? ⟨W2.heap.size, 1, none⟩ = some (.map (some rm)) := (s6.ob (b := W2.heap.size) 1 rfl).k 1 rfl; have d6 : W4.cell? ⟨tb, 0, none⟩ = some (.map (some cm)) := (s7.ob (b := tb) 3 rfl).k 0 rfl; have d0 : W4.cell? ⟨W2.heap.size, 0, none⟩ = some (vI 1) := (s7.ob (b := W2.heap.size) 2 rfl).k 0 rfl; have d1 : W4.cell? ⟨W2.heap.size, 1, none⟩ = some (.map (some rm)) := (s7.ob (b := W2.heap.size) 2 rfl).k 1 rfl; have oR := s7.ob (b := w.heap.size) 4 rfl; have ⟨t0, t1, t2, t3⟩ := oR.k4 rfl rfl rfl rfl; have f0 := oR.frozen 0; have f1 := oR.frozen 1; have f2 := oR.frozen 2; have f3 := oR.frozen 3; clear hM3 hg3 hM4 hg4; go_wp2
 go_region_held3 (fun V => V.cell? ⟨tb, 0, none⟩ = some (.map (some cm)) ∧ V.cell? ⟨W2.heap.size, 0, none⟩ = some (vI 1) ∧ V.cell? ⟨W2.heap.size, 1, none⟩ = some (.map (some rm))) (go_keep) (fail)
 go_wp2; have oR9 : Ob _ _ _ #[vO, vO, vO, vO] := (((oR.set 0 vO).set 1 vO).set 2 vO).set 3 vO; have ⟨v0, v1, v2, v3⟩ := oR9.k4 rfl rfl rfl rfl; have s8 := ((((s7.front 4 rfl).set 0 vO).set 1 vO).set 2 vO).set 3 vO; simp only [zzH, zzI, zzG, zzF, List.length_cons, List.length_nil] at s8; have s9 := ((s8).take [0, 2, 2, 0, 0, 0]); simp only [takeOut, zzD, zzE, zzF, zzG, zzH, zzI] at s9; replace s9 := s9.drop.drop; have s10 : St (TabB tb :: BytesA (.slice A bodyC.length c) bodyC :: r) _ := TabB.mk (y := y) s9; refine bodyPost_ret (v := .tuple #[vI 1, ans0]) ?_ rfl ⟨rfl, s10⟩; simp [results, Tryz.f288, go_sem, v0, v1, v2, v3]
theorem tell_calls {tb : Nat} {r : List As} {w : World} (h : St (TabB tb :: r) w) :
   Calls Tryz.prog 432 #[ptr tb, ans1] w fun e w' => e = .returned vO ∧ St r w' := by
 obtain ⟨cm, rm, y, s0⟩ := TabB.out h; have s1 := s0.obNew 39 #[vO, vI 1, vO, vO]; have s2 := ((s1).take [1, 1, 1, 0]); simp only [takeOut, zzD, zzE, zzF, zzG, zzH, zzI] at s2; clear h s0 s1; have c0 := (s2.ob (b := tb) 0 rfl).k 0 rfl; have oA := s2.ob (b := w.heap.size) 3 rfl; have ⟨q0, q1, q2, q3⟩ := oA.k4 rfl rfl rfl rfl; have cM := hdd (imade_calls tb cm _ c0); have cC := hdd (client_known s2)
 go_enter Tryz.func432, Tryz.ntmps432
 go_wp2_with (first
   | (go_at_call 244; (with_reducible refine (cM.out).mono ?_); rintro e W ⟨rfl, rfl⟩)
   | (go_at_call 367; (with_reducible refine (isclient_calls _).mono ?_); rintro e W ⟨rfl, rfl⟩)
   | (go_at_call 368; (with_reducible refine (isnumber_calls _).mono ?_); rintro e W ⟨rfl, rfl⟩))
 refine cC.out.mono ?_; rintro e W1 ⟨rfl, hb1⟩; have s3 := (s2.same hb1).obNew 357 #[vI 1, .map (some rm)]; clear q0 q1 q2 q3 oA hb1 c0 s2; have oA := s3.ob (b := w.heap.size) 4 rfl; have ⟨q0, q1, q2, q3⟩ := oA.k4 rfl rfl rfl rfl; have hl := (s3.gmap (t := 3) 3 rfl).look_ok (tm := 355) Mv.keyedI Tryz.underlying355 (zero_row _) (key := vI 1) (k := 1) (Mv.keyI (by omega) (by omega)); rw [show (mGet [((1 : Int), (.agg #[.int .u64 y, .bool false, vO, vO, vO, vO] : Value))] 1).getD row0 = .agg #[.int .u64 y, .bool false, vO, vO, vO, vO] from rfl, show (mGet [((1 : Int), (.agg #[.int .u64 y, .bool false, vO, vO, vO, vO] : Value))] 1).isSome = true from rfl] at hl; have s4 := s3.obNew 359 #[.int .u64 y, .bool false, vO, vO, vO, vO]; have s5 := (s3.obNew 359 #[.int .u64 y, .bool true, vO, vI 1, vO, vO]).drew; obtain ⟨W3, hput, hM3, hg3⟩ := (s5.gmap (t := 3) 4 rfl).put (tm := 355) Mv.keyedI Tryz.underlying355 (by unfold maxLen; simp) (key := vI 1) (k := 1) (Mv.keyI (by omega) (by omega)) (val := .agg #[.int .u64 y, .bool true, vO, vI 1, vO, vO]); have s6 := (s5.front 4 rfl).map hM3 hg3; simp only [zzH, zzI, zzG, zzF, List.length_cons, List.length_nil] at s6; have s7 := s6.drop.drop.drop.drop.drop.drop; have oB := s4.ob (b := w.heap.size) 5 rfl; have ⟨p0, p1, p2, p3⟩ := oB.k4 rfl rfl rfl rfl; have oB2 := (s3.obNew 359 #[.int .u64 y, .bool true, vO, vO, vO, vO]).ob (b := w.heap.size) 5 rfl; have ⟨o0, o1, o2, o3⟩ := oB2.k4 rfl rfl rfl rfl
 have oB3 := (s3.obNew 359 #[.int .u64 y, .bool true, vO, vI 1, vO, vO]).ob (b := w.heap.size) 5 rfl; have ⟨z0, z1, z2, z3⟩ := oB3.k4 rfl rfl rfl rfl; go_wp2; clear s3 s4 s5 s6 hM3 hg3 oB oB2 oB3 oA q0 q1 q2 q3
 go_region
 all_goals
   go_wp2; go_ret; exact ⟨rfl, s7⟩
end
end Tp
namespace Ce
section
open Go.RowKit
open It
def bs (l : List UInt8) : ByteArray := ⟨l.toArray⟩
theorem bs_size (l : List UInt8) : (bs l).size = l.length := by simp [bs, ByteArray.size]
theorem bs_data (l : List UInt8) : (bs l).data.toList = l := rfl
abbrev Tst := Option (List UInt8)
def tNum (least most : Int) : Tst → Int × Tst
 | none => (0, none)
 | some l => match firstC l with
   | some (n, k) => if n < least ∨ most < n then (0, none) else (n, some (l.drop k))
   | none => (0, none)
theorem tNum_bad {least most : Int} {l : List UInt8} (h : firstC l = none) : tNum least most (some l) = (0, none) := by
 simp only [tNum, h]
theorem tNum_out {least most n : Int} {l : List UInt8} {k : Nat} (h : firstC l = some (n, k)) (h2 : n < least ∨ most < n) : tNum least most (some l) = (0, none) := by
 simp only [tNum, h]; exact if_pos h2
theorem tNum_in {least most n : Int} {l : List UInt8} {k : Nat} (h : firstC l = some (n, k)) (h2 : ¬ (n < least ∨ most < n)) : tNum least most (some l) = (n, some (l.drop k)) := by
 simp only [tNum, h]; exact if_neg h2
theorem tNum_some {least most n : Int} {s : Tst} {r : List UInt8} (h : tNum least most s = (n, some r)) : ∃ l, s = some l ∧ l = numC n ++ r ∧ least ≤ n ∧ n ≤ most := by
 cases s with
 | none => cases h
 | some l =>
   cases hf : firstC l with
   | none => rw [tNum_bad hf] at h; cases h
   | some x =>
     obtain ⟨m, k⟩ := x
     by_cases h2 : m < least ∨ most < m
     · rw [tNum_out hf h2] at h; cases h
     · rw [tNum_in hf h2] at h
       simp only [Prod.mk.injEq, Option.some.injEq] at h; obtain ⟨rfl, rfl⟩ := h; have := (firstC_some hf).1; exact ⟨l, rfl, by rw [this, List.take_append_drop], by omega, by omega⟩
theorem tNum_put {least most n : Int} (r : List UInt8) (h1 : -9223372036854775808 ≤ n) (h2 : n ≤ 9223372036854775807) (h3 : least ≤ n) (h4 : n ≤ most) : tNum least most (some (numC n ++ r)) = (n, some r) := by
 rw [tNum_in (firstC_numC h1 h2 r) (by omega)]; simp
def tText (most : Int) (s : Tst) : List UInt8 × Tst :=
 match tNum 0 most s with
 | (n, some l) => if (l.length : Int) < n then ([], none) else (l.take n.toNat, some (l.drop n.toNat))
 | (_, none) => ([], none)
theorem tText_bad {most : Int} {s : Tst} (h : (tNum 0 most s).2 = none) : tText most s = ([], none) := by
 unfold tText
 cases hs : tNum 0 most s with
 | mk n r =>
   cases r with
   | none => rfl
   | some r => rw [hs] at h; cases h
theorem tText_long {most n : Int} {s : Tst} {l : List UInt8} (h : tNum 0 most s = (n, some l)) (h2 : (l.length : Int) < n) : tText most s = ([], none) := by
 unfold tText; rw [h]; exact if_pos h2
theorem tText_ok {most n : Int} {s : Tst} {l : List UInt8} (h : tNum 0 most s = (n, some l)) (h2 : ¬ (l.length : Int) < n) : tText most s = (l.take n.toNat, some (l.drop n.toNat)) := by
 unfold tText; rw [h]; exact if_neg h2
theorem tText_put {most : Int} (x r : List UInt8) (h1 : (x.length : Int) ≤ most) (h2 : (x.length : Int) ≤ 9223372036854775807) : tText most (some (numC x.length ++ (x ++ r))) = (x, some r) := by
 rw [tText_ok (tNum_put (x ++ r) (by omega) h2 (by omega) h1) (by simp; omega)]; simp
end
section
open Go.RowKit
def mPut (s : List UInt8 × Bool) (c : List UInt8) : List UInt8 × Bool := if s.2 then s else if 262144 < s.1.length + c.length then (s.1, true) else (s.1 ++ c, false)
def Mk (w : World) (bm : Nat) (Fr : Nat → Prop) (s : List UInt8 × Bool) : Prop :=
 s.1.length ≤ 262144 ∧ ¬ Fr bm ∧ (∀ i, Fr i → i < w.heap.size) ∧
 ∃ v, Ob w bm 250 #[v, .bool s.2] ∧ w.ownsRow (bm + 1) 5 1 v s.1.length (bytesV s.1) ∧ (∀ g, v.ownBlock = some g → ¬ Fr g)
theorem Mk.lt {w : World} {bm : Nat} {Fr : Nat → Prop} {s : List UInt8 × Bool} (h : Mk w bm Fr s) : bm < w.heap.size := by
 obtain ⟨_, _, _, v, ho, _⟩ := h; exact ho.lt
theorem Mk.later {w w' : World} {bm : Nat} {Fr Fr' : Nat → Prop} {s : List UInt8 × Bool} (h : Mk w bm Fr s) (hb : Below w.heap.size w w') (hF : ∀ i, Fr' i → (Fr i ∨ w.heap.size ≤ i) ∧ i < w'.heap.size) : Mk w' bm Fr' s := by
 obtain ⟨h1, h2, h3, v, ho, hr, hg⟩ := h; have hlt := ho.lt; refine ⟨h1, fun hf => ?_, fun i hi => (hF i hi).2, v, ho.same hb, ownsRow_below hr hb, fun g hg' hf => ?_⟩
 · rcases (hF _ hf).1 with h | h
   · exact h2 h
   · omega
 · rcases (hF _ hf).1 with h | h
   · exact hg g hg' h
   · have := (hr.lt g hg').2; omega
theorem ownsRow_set {w : World} {lo b j : Nat} {e : TypeId} {size n : Nat} {v u : Value} {xs : List Value} (h : w.ownsRow lo e size v n xs) (hb : b < lo) : (w.setCell ⟨b, j, none⟩ u).ownsRow lo e size v n xs := by
 refine h.kept (grownBy_set w b j u) ?_
 cases hv : v.ownBlock with
 | none => simp
 | some g => have := (h.lt g hv).1; exact .inr (by simp; omega)
theorem new_calls (w : World) :
   Calls Tryz.prog 85 #[] w fun e w' => e = .returned (.pointer (some ⟨w.heap.size, 0, none⟩)) ∧ w.alloc (.cells #[vN, .bool false] 250) = w' := by
 go_enter Tryz.func85, Tryz.ntmps85
 go_wp2; go_ret; exact ⟨rfl, rfl⟩
theorem Mk.new (w : World) (Fr : Nat → Prop) (hF : ∀ i, Fr i → i < w.heap.size) : Mk (w.alloc (.cells #[vN, .bool false] 250)) w.heap.size Fr ([], false) :=
 ⟨by simp, fun h => by have := hF _ h; omega, fun i hi => by have := hF i hi; simp; omega, _, Ob.new _ _ _, World.ownsRow_nil _ _ _ _, fun g hg => by cases hg⟩
theorem put_calls (x : List UInt8) (l : List CatB.Part) (bk bm : Nat) (Fr : Nat → Prop) (s : List UInt8 × Bool) (w : World) (hM : Mk w bm Fr s) (hbk : bk < w.heap.size) (hll : l.length ≤ 100) (hcell : ∀ j (h : j < l.length), w.cell? ⟨bk, j, none⟩ = some (CatB.pv l[j]))
   (hp : CatB.Parts w w.heap.size l) (hx : CatB.all l = bytesV x) (hlx : CatB.lens l = x.length) (hlen : x.length ≤ 1000000) :
   Calls Tryz.prog 142 #[.pointer (some ⟨bm, 0, none⟩), .slice (some ⟨bk, 0, none⟩) l.length l.length] w fun e w' => e = .returned (.pointer (some ⟨bm, 0, none⟩)) ∧ Mk w' bm Fr (mPut s x) ∧ Kept Fr w w' := by
 obtain ⟨i0, hi0, hz0, hz1, hz2⟩ := inf3 byte_info; have cC := hdd (CatB.concat_calls l bk l.length w (Nat.le_refl _) (by unfold maxLen; omega) hbk hcell hp (by omega)); rw [hx, hlx] at cC; clear hcell hp hx hlx; obtain ⟨S, long⟩ := s; obtain ⟨hM1, hM2, hM3, v, hO, hR, hG⟩ := hM; dsimp only at hM1 hO hR; obtain ⟨A, c, rfl, hc1, hc2⟩ := (BytesAt.of_own hR).form; have hFlt := hdd hM3; have hGr := hdd hG; clear hG hM3
 go_enter Tryz.func142, Tryz.ntmps142
 go_wp2_with fail; refine cC.out.mono ?_; rintro e W1 ⟨⟨cv, rfl, hcv⟩, hB⟩; have hO1 := hO.same hB; have hR1 := ownsRow_below hR hB; have hbm := hO.lt; have hK1 : Kept Fr w W1 := Kept.of_below hB hFlt.out; have hs1 := hB.size; have hcB := BytesAt.of_own hcv; obtain ⟨A1, c1, rfl, hc3, -⟩ := hcB.form; have g0 := hO1.k 0 rfl; have g1 := hO1.k 1 rfl; have f1 := hO1.frozen 1; have hFlt1 := hdd (fun i hi => Nat.lt_of_lt_of_le (hFlt.out i hi) hs1)
 cases long with
 | true =>
   have HS := hdd (show mPut (S, true) x = (S, true) from rfl); have hO2 := hO1.set 1 (.bool true); have hR2 := ownsRow_set (b := bm) (j := 1) (u := .bool true) hR1 (by omega); have hg2 := grownBy_set W1 bm 1 (.bool true); go_wp2; go_ret; refine ⟨rfl, ?_, hK1.trans (Kept.of_grown hg2 (fun i hi => ⟨hFlt1.out i hi, fun e => hM2 (by cases e; exact hi)⟩))⟩; rw [HS.out]; exact ⟨hM1, hM2, fun i hi => Nat.lt_of_lt_of_le (hFlt1.out i hi) hg2.size, _, hO2, hR2, hGr.out⟩
 | false =>
   by_cases hbig : 262144 < S.length + x.length
   · have HS := hdd (show mPut (S, false) x = (S, true) by unfold mPut; rw [if_neg (by simp)]; exact if_pos hbig)
     have hd : decide ((x.length : Int) > 262144 - (S.length : Int)) = true := by simp; omega
     have hO2 := hO1.set 1 (.bool true); have hR2 := ownsRow_set (b := bm) (j := 1) (u := .bool true) hR1 (by omega); have hg2 := grownBy_set W1 bm 1 (.bool true); clear hbig; go_wp2; go_ret; refine ⟨rfl, ?_, hK1.trans (Kept.of_grown hg2 (fun i hi => ⟨hFlt1.out i hi, fun e => hM2 (by cases e; exact hi)⟩))⟩; rw [HS.out]; exact ⟨hM1, hM2, fun i hi => Nat.lt_of_lt_of_le (hFlt1.out i hi) hg2.size, _, hO2, hR2, hGr.out⟩
   · have HS := hdd (show mPut (S, false) x = (S ++ x, false) by unfold mPut; rw [if_neg (by simp)]; exact if_neg hbig)
     have hd : decide ((x.length : Int) > 262144 - (S.length : Int)) = false := by simp; omega
     have hO2 := hO1.set 1 (.bool false); have hR2 := ownsRow_set (b := bm) (j := 1) (u := .bool false) hR1 (by omega); have hg2 := grownBy_set W1 bm 1 (.bool false); have hc2' : BytesAt (W1.setCell ⟨bm, 1, none⟩ (.bool false)) w.heap.size W1.heap.size (.slice A1 x.length c1) x := Sl.grown hcB hg2 (Nat.le_refl _) (fun k e => .inl (by cases e; exact hbm)); have hKK := hK1.trans (Kept.of_grown hg2 (fun i hi => ⟨hFlt1.out i hi, fun e => hM2 (by cases e; exact hi)⟩)); have hsz2 := hg2.size
     go_wp2_with (at_builtin
                  refine wpList_append_sl _ rfl (.tmp 37) (.tmp 38) _ rfl (bm + 1) 5 i0 _ 1 1 Tryz.underlying35 hi0 hz0 hz1 hz2 rfl (by omega) (.slice A S.length c) S.length (bytesV S) rfl hR2 w.heap.size W1.heap.size _ x.length (bytesV x) rfl hc2' (bytesV_one x) (by unfold maxLen; omega) (by omega) (by omega) ?_; intro v5 w5 hv5 hg5 hat5; obtain ⟨A5, c5, rfl, -⟩ := (Sl.of_own hv5).at_; have hne : some bm ≠ (Value.slice A S.length c).ownBlock := fun e => (by have := (hR2.lt bm e.symm).1; omega)
                  have hO5 := hO2.kept hg5 hne; have g5 := hO5.k 0 rfl; have f5 := hO5.frozen 0)
     have hO6 := hO5.set 0 (.slice A5 (S.length + x.length) c5); have hR6 := ownsRow_set (b := bm) (j := 0) (u := .slice A5 (S.length + x.length) c5) hv5 (by omega); have hg6 := grownBy_set w5 bm 0 (.slice A5 (S.length + x.length) c5); go_wp2; go_ret; have hlt2 : ∀ i, Fr i → i < (W1.setCell ⟨bm, 1, none⟩ (.bool false)).heap.size := fun i hi => Nat.lt_of_lt_of_le (hFlt1.out i hi) hsz2
     have hK5 := hKK.trans (Kept.of_grown hg5 (fun i hi => ⟨hlt2 i hi, fun e => hGr.out i e.symm hi⟩)); have hlt5 : ∀ i, Fr i → i < w5.heap.size := fun i hi => Nat.lt_of_lt_of_le (hlt2 i hi) hg5.size
     refine ⟨rfl, ?_, hK5.trans (Kept.of_grown hg6 (fun i hi => ⟨hlt5 i hi, fun e => hM2 (by cases e; exact hi)⟩))⟩; rw [HS.out]; refine ⟨by simp; omega, hM2, fun i hi => Nat.lt_of_lt_of_le (hlt5 i hi) hg6.size, _, hO6, by rw [List.length_append, bytesV_append]; exact hR6, fun g hg hf => ?_⟩; rcases hat5 with h | h
     · exact hGr.out g (h ▸ hg) hf
     · rw [h] at hg
       cases hg
       have := hlt2 _ hf; omega
end
end Ce
end Go.Proofs.YtgcnhmjpfbbfcaaGreat
