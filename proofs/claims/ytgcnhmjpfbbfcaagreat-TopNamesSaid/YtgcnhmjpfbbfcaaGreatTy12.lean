/-
  part of the proof of TopNames.
-/
import Derived.Test.YtgcnhmjpfbbfcaaGreatTy11
set_option linter.unusedVariables false
set_option linter.unusedSimpArgs false
set_option maxRecDepth 100000
set_option maxHeartbeats 8000000
namespace Go.Proofs.YtgcnhmjpfbbfcaaGreat
namespace Tp
section
open Go.RowKit Go.Maps
open Ce
section
variable {w w' : World} {l r : List As} {b j : Nat} {t e : TypeId} {cs : Array Value} {size n : Nat} {v : Value} {xs : List Value}
theorem St.ob (h : St l w) (k : Nat) (hk : l[k]? = some (ObA b t cs)) : Ob w b t cs := (h.at_ k hk).elim fun _ hx => hx.1
theorem St.set (h : St (ObA b t cs :: r) w) (j : Nat) (u : Value) : St (ObA b t (cs.setIfInBounds j u) :: r) (w.setCell ⟨b, j, none⟩ u) := by
 obtain ⟨A, hA, hc⟩ := h.cut; exact hc _ (ObA b t _) A ⟨hA.1.set j u, hA.2⟩ (fun i hi => .inl hi) (Kept.of_grown (grownBy_set w b j u) fun i hi => ⟨hi.1, fun e => hi.2 ((hA.2 i).2 (by cases e; rfl))⟩)
theorem St.obNew (h : St r w) (t : TypeId) (cs : Array Value) : St (ObA w.heap.size t cs :: r) (w.alloc (.cells cs t)) :=
 h.born ((Below.refl _ w).alloc (Nat.le_refl _) _) (A := fun i => i = w.heap.size) ⟨Ob.new w t cs, fun i => Iff.rfl⟩ fun i hi => Nat.le_of_eq hi.symm
theorem St.mapNew {κ : Type} [DecidableEq κ] (K : KeyK κ) (h : St r w) (t : TypeId) : St (MapA K t w.heap.size [] :: r) (w.alloc (.map #[] 0)) :=
 h.born ((Below.refl _ w).alloc (Nat.le_refl _) _) (A := fun i => i = w.heap.size) ⟨GMap.made w Tryz.prog t, fun i => Iff.rfl⟩ fun i hi => Nat.le_of_eq hi.symm
theorem St.map {κ : Type} [DecidableEq κ] {K : KeyK κ} {m m' : List (κ × Value)} (h : St (MapA K t b m :: r) w) (hm : GMap K w' Tryz.prog t b m') (hg : w.grownBy w' (some b)) : St (MapA K t b m' :: r) w' := by
 obtain ⟨A, hA, hc⟩ := h.cut; exact hc _ (MapA K t b m') A ⟨hm, hA.2⟩ (fun i hi => .inl hi) (Kept.of_grown hg fun i hi => ⟨hi.1, fun e => hi.2 ((hA.2 i).2 (by cases e; rfl))⟩)
theorem St.gmap {κ : Type} [DecidableEq κ] {K : KeyK κ} {m : List (κ × Value)} (h : St l w) (k : Nat) (hk : l[k]? = some (MapA K t b m)) : GMap K w Tryz.prog t b m := (h.at_ k hk).elim fun _ hx => hx.1
theorem St.row {v' : Value} {n' : Nat} {xs' : List Value} (h : St (RowA e size v n xs :: r) w) (hv : w'.ownsRow 0 e size v' n' xs') (hg : w.grownBy w' v.ownBlock) (hat : v'.ownBlock = v.ownBlock ∨ v'.ownBlock = some w.heap.size) : St (RowA e size v' n' xs' :: r) w' := by
 obtain ⟨A, hA, hc⟩ := h.cut; refine hc _ (RowA e size v' n' xs') (fun i => v'.ownBlock = some i) ⟨hv, fun i => Iff.rfl⟩ (fun i hi => ?_) (Kept.of_grown hg fun i hi => ⟨hi.1, fun e => hi.2 ((hA.2 i).2 e.symm)⟩); rcases hat with q | q
 · exact .inl ((hA.2 i).2 (q.symm.trans hi))
 · rw [q] at hi
   cases hi
   exact .inr (Nat.le_refl _)
theorem St.own (h : St l w) (k : Nat) (hk : l[k]? = some (RowA e size v n xs)) : w.ownsRow 0 e size v n xs := (h.at_ k hk).elim fun _ hx => hx.1
theorem St.sl (h : St l w) (k : Nat) (hk : l[k]? = some (SlA size v n xs)) : Sl w 0 w.heap.size size v n xs := by
 obtain ⟨X, ⟨lo, hi, h1, h2, h3⟩, -⟩ := h.at_ k hk; exact h1.wide (Nat.zero_le _) h2
theorem St.by (h : St l w) (k : Nat) {v : Value} {x : List UInt8} (hk : l[k]? = some (BytesA v x)) : BytesAt w 0 w.heap.size v x := (h.at_ k hk).elim fun _ hx => hx.1.bytes
theorem St.slNew (h : St r w) (t : TypeId) (cs : Array Value) (hs : cs.size = n * size) (hn : n ≤ maxLen) : St (SlA size (.slice (some ⟨w.heap.size, 0, none⟩) n n) n cs.toList :: r) (w.alloc (.cells cs t)) :=
 h.born ((Below.refl _ w).alloc (Nat.le_refl _) _) (A := fun i => i = w.heap.size) ⟨⟨w.heap.size, w.heap.size + 1, Sl.new w cs t hs hn, by simp, fun i h1 h2 => by omega⟩, fun i hi => by simp; omega⟩ fun i hi => Nat.le_of_eq hi.symm
theorem St.rowNew {lo : Nat} (h : St r w) (hb : Below w.heap.size w w') (hv : w'.ownsRow lo e size v n xs) (hlo : w.heap.size ≤ lo) : St (RowA e size v n xs :: r) w' :=
 h.born hb (A := fun i => v.ownBlock = some i) ⟨Wa.ownsRow_wide hv (Nat.zero_le _), fun i => Iff.rfl⟩ fun i hi => Nat.le_trans hlo (hv.lt i hi).1
theorem St.rowNil (h : St r w) (e : TypeId) (size : Nat) : St (RowA e size vN 0 [] :: r) w :=
 h.rowNew (lo := w.heap.size) (Below.refl _ w) (World.ownsRow_nil _ _ _ _) (Nat.le_refl _)
theorem St.rowSl (h : St (RowA e size v n xs :: r) w) : St (SlA size v n xs :: r) w :=
 h.turn fun A hA => by
   obtain ⟨lo, B, hB, hl, hs⟩ := (Way.of_own hA.1).sla; exact ⟨⟨lo, B, hs, hB, fun i h1 h2 => (hA.2 i).2 (hl i h1 h2)⟩, (RowA e size v n xs).lt _ _ hA⟩
theorem St.below {w0 : World} (h : St l w) (k : Nat) (hk : l[k]? = some (OldA w0)) : Below w0.heap.size w0 w := (h.at_ k hk).elim fun _ hx => hx.1
theorem St.old (w : World) : St [OldA w] w :=
 ⟨fun i => i < w.heap.size, fun i => i < w.heap.size, fun _ => False, ⟨Below.refl _ _, fun i => Iff.rfl⟩, fun i h => h, fun i _ h => h, fun i => by simp⟩
end
def WayA (e : TypeId) (size : Nat) (v : Value) (n : Nat) (xs : List Value) : As :=
 ⟨fun w X => Way w e size v n xs ∧ ∀ i, X i ↔ v.ownBlock = some i,
   fun _ _ _ h hk => ⟨by
     refine ⟨h.1.1, ?_⟩; rcases h.1.2 with q | ⟨g, off, cap, cur, q1, q2, q3, q4, q5⟩
     · exact .inl q
     · exact .inr ⟨g, off, cap, cur, q1, q2, q3, hk.ob q4 ((h.2 g).2 (by rw [q1]; rfl)), q5⟩, h.2⟩,
   fun w X h i hi => h.1.lt ((h.2 i).1 hi)⟩
section
variable {w w' : World} {l r : List As} {b j : Nat} {t e : TypeId} {cs : Array Value} {size n : Nat} {v : Value} {xs : List Value}
theorem St.rowWay (h : St (RowA e size v n xs :: r) w) : St (WayA e size v n xs :: r) w := h.turn fun A hA => ⟨Way.of_own hA.1, hA.2⟩
theorem St.way {v' : Value} {n' : Nat} {xs' : List Value} (h : St (WayA e size v n xs :: r) w) (hv : Way w' e size v' n' xs') (hg : w.grownBy w' v.ownBlock) (hat : v'.ownBlock = v.ownBlock ∨ v'.ownBlock = some w.heap.size) : St (WayA e size v' n' xs' :: r) w' := by
 obtain ⟨A, hA, hc⟩ := h.cut; refine hc _ (WayA e size v' n' xs') (fun i => v'.ownBlock = some i) ⟨hv, fun i => Iff.rfl⟩ (fun i hi => ?_) (Kept.of_grown hg fun i hi => ⟨hi.1, fun e => hi.2 ((hA.2 i).2 e.symm)⟩); rcases hat with q | q
 · exact .inl ((hA.2 i).2 (q.symm.trans hi))
 · rw [q] at hi
   cases hi
   exact .inr (Nat.le_refl _)
theorem St.wayAt (h : St l w) (k : Nat) (hk : l[k]? = some (WayA e size v n xs)) : Way w e size v n xs := (h.at_ k hk).elim fun _ hx => hx.1
end
def StkA (b : Nat) (s : Sk.Stk) : As :=
 ⟨fun w X => ∃ mb, Sk.StkAt w 0 b mb s ∧ ∀ i, X i ↔ i = b ∨ i = mb, fun _ _ _ ⟨mb, h, hx⟩ hk => ⟨mb, h.kept hk ((hx _).2 (.inl rfl)) ((hx _).2 (.inr rfl)), hx⟩,
   fun _ _ ⟨mb, h, hx⟩ i hi => ((hx i).1 hi).elim (fun e => by rw [e]; exact h.ob.lt) (fun e => by rw [e]; exact h.map.lt)⟩
theorem stk_wide {w : World} {base b mb : Nat} {s : Sk.Stk} (h : Sk.StkAt w base b mb s) : Sk.StkAt w 0 b mb s := ⟨h.ob, h.map, h.ok, h.ne, ⟨Nat.zero_le _, Nat.zero_le _⟩, h.len⟩
theorem stk_new {r : List As} {w : World} (h : St r w) : Calls Tryz.prog 158 #[] w fun e w' => ∃ b, e = .returned (.pointer (some ⟨b, 0, none⟩)) ∧ St (StkA b [] :: r) w' := by
 refine (Sk.new_calls w).mono ?_; rintro e w' ⟨⟨b, mb, rfl, hs⟩, hb⟩; exact ⟨b, rfl, h.born hb (A := fun i => i = b ∨ i = mb) ⟨mb, stk_wide hs, fun i => Iff.rfl⟩ fun i hi => hi.elim (fun e => by rw [e]; exact hs.lo.1) (fun e => by rw [e]; exact hs.lo.2)⟩
theorem stk_do {b : Nat} {s : Sk.Stk} {r : List As} {w : World} {L : List It.Item} {sv : Value} (h : St (StkA b s :: SlA 2 sv L.length (It.itemCells L) :: r) w) (hF : It.Fits L) (k : Int) :
   Calls Tryz.prog 385 #[.pointer (some ⟨b, 0, none⟩), vI k, sv] w fun e w' => e = .returned (vI (Sk.doS s k L).2) ∧ St (StkA b (Sk.doS s k L).1 :: SlA 2 sv L.length (It.itemCells L) :: r) w' := by
 have hI : It.ItemsAt w 0 w.heap.size sv L := h.sl 1 rfl; obtain ⟨A, ⟨mb, hs, hx⟩, hc⟩ := h.cut; refine (Sk.do_calls hs k L sv hI hF).mono ?_; rintro e w' ⟨rfl, ⟨mb', hs', hm⟩, hk⟩; refine ⟨rfl, hc w' (StkA b (Sk.doS s k L).1) (fun i => i = b ∨ i = mb') ⟨mb', hs', fun i => Iff.rfl⟩ (fun i hi => ?_) (hk.mono fun i hi => ⟨hi.1, fun e => hi.2 ((hx i).2 (.inl e))⟩)⟩; rcases hi with e | e
 · exact .inl ((hx i).2 (.inl e))
 · rcases hm with q | q
   · exact .inl ((hx i).2 (.inr (e.trans q)))
   · exact .inr (by omega)
theorem stk_at {b : Nat} {s : Sk.Stk} {l : List As} {w : World} (h : St l w) (k : Nat) (hk : l[k]? = some (StkA b s)) : ∃ mb, Sk.StkAt w 0 b mb s := (h.at_ k hk).elim fun _ ⟨mb, hs, _⟩ => ⟨mb, hs⟩
end
section
open Go.RowKit Go.Maps
open Ce
def itm : List It.Item := [(⟨#[97]⟩, 5)]
theorem fits_itm : It.Fits itm := by
 intro x hx; simp only [itm, List.mem_singleton] at hx; subst hx; exact ⟨by decide, by decide, by decide⟩
theorem may_itm : It.may itm = true := by decide +kernel
theorem itm_form {w : World} {lo hi : Nat} {sv : Value} (h : It.ItemsAt w lo hi sv itm) : ∃ A c, sv = .slice A 1 c ∧ 1 ≤ c := by
 obtain ⟨A, c, h1, h2, -⟩ := h.form; exact ⟨A, c, h1, h2⟩
abbrev ItmA (sv : Value) : As := SlA 2 sv 1 (It.itemCells itm)
abbrev askV (sv : Value) : Value := .agg #[vO, vI 1, vI 6, vO, vO, vO, vO, vE, sv]
abbrev ask0 : Value := .agg #[vO, vO, vO, vO, vO, vO, vO, vE, vN]
abbrev mailQ (k : Int) (sv : Value) : Value := .agg #[vI k, vO, vN, vO, vI 1, vI 6, vO, vO, vO, vO, vE, sv, vO, vO, vO, vO]
abbrev mailY (k : Int) : Value := .agg #[vI k, vO, vN, vO, vO, vO, vO, vO, vO, vO, vE, vN, vO, vI 1, vO, vO]
abbrev mailN : Value := .agg #[vI 14, vO, vN, vO, vO, vO, vO, vO, vO, vO, vE, vN, vO, vO, vO, vO]
abbrev postQ (tt k : Int) (sv : Value) : List Value := [vI tt, vI k, vO, vN, vO, vI 1, vI 6, vO, vO, vO, vO, vE, sv, vO, vO, vO, vO]
abbrev postY (tt k : Int) : List Value := [vI tt, vI k, vO, vN, vO, vO, vO, vO, vO, vO, vO, vE, vN, vO, vI 1, vO, vO]
abbrev postN (tt : Int) : List Value := [vI tt, vI 14, vO, vN, vO, vO, vO, vO, vO, vO, vO, vE, vN, vO, vO, vO, vO]
abbrev sentP (tt : Int) (pv : Value) : List Value := [.bool false, vI tt, pv, vO, vO, vO, vO]
abbrev sentY : List Value := [.bool true, vO, vN, vO, vI 1, vO, vO]
def bodyC : List UInt8 := [6, 0, 0, 0, 0, 0, 1, 1, 97, 5]
def askC : List UInt8 := 0 :: 1 :: bodyC
def codeQ : List UInt8 := [1, 0, 0, 12] ++ askC
def codeN : List UInt8 := [14, 0, 0, 0]
def codeY : List UInt8 := [2, 0, 0, 0, 0, 1, 0, 0]
def pkC (s a : Int) (l : List UInt8) : List UInt8 := numC s ++ numC a ++ (numC l.length ++ l)
def inC (k f : Int) (l : List UInt8) : List UInt8 := numC k ++ numC f ++ (numC l.length ++ l)
abbrev ptr (b : Nat) : Value := .pointer (some ⟨b, 0, none⟩)
abbrev LItem := Int × Value × Int × Int
def litC (x : LItem) : List Value := [vI x.1, x.2.1, vI x.2.2.1, vI x.2.2.2]
def EndA (e : Nat) (its : List LItem) (sent mark : Int) : As :=
 exA fun v : Value => sepA [ObA e 200 #[v, vI sent, vI mark], RowA 317 4 v its.length (its.flatMap litC)]
def RegA (rg : Nat) (me : Int) (s : Sk.Stk) : As :=
 exA fun a : Nat × Nat × Nat × Nat => sepA [ObA rg 130 #[vI me, vI 2, ptr a.1, ptr a.2.1, vN], ObA a.1 197 #[ptr a.2.2.1, .map (some a.2.2.2)], StkA a.2.2.1 s]
def K01 : List UInt8 := [0, 0, 0, 0, 0, 0, 0, 0, 0, 0, 0, 0, 0, 0, 0, 1]
structure Da where
 tb : Nat
 sm : Nat
 wm : Nat
 om : Nat
 bl : Nat
 pc : Nat
def deskC (me : Int) (a : Da) (ov : Value) : Array Value := #[vI me, vI 2, ptr a.tb, .map (some a.sm), .map (some a.wm), .map (some a.om), ptr a.bl, ptr a.pc, ov]
def TabA (tb : Nat) : As := exA fun cm : Nat => sepA [ObA tb 275 #[.map (some cm)], MapA intK 3 cm []]
def TabB (tb : Nat) : As := exA fun a : Nat × Nat × Int => sepA [ObA tb 275 #[.map (some a.1)], MapA intK 3 a.1 [(0, .agg #[vI 1, .map (some a.2.1)])],
 MapA intK 3 a.2.1 [(1, .agg #[.int .u64 a.2.2, .bool false, vO, vO, vO, vO])]]
def DeskA (dk : Nat) (me : Int) : As :=
 exA fun a : Da => sepA [ObA dk 145 (deskC me a vN), MapA intK 3 a.sm [], MapA strK 369 a.om [], ObA a.bl 278 #[vN, vO]]
def DeskN (dk : Nat) (me : Int) : As :=
 exA fun a : Da => sepA [ObA dk 145 (deskC me a vN), MapA intK 3 a.sm [], MapA strK 369 a.om [], ObA a.bl 278 #[vN, vO], TabA a.tb]
theorem key_desk : keyOf Tryz.prog 369 (.agg #[vO, vI 1]) = some (strK.lit K01) := by kernel_rfl
theorem key_world : keyOf Tryz.prog 67 (.agg #[vO, vI 1]) = some (strK.lit K01) := by kernel_rfl
end
section
open Go.RowKit Go.Maps
def takeOut : List As → List Nat → List As × List As
 | l, [] => ([], l)
 | l, k :: ks => (l.getD k noA :: (takeOut (l.eraseIdx k) ks).1, (takeOut (l.eraseIdx k) ks).2)
theorem Sep.none {w : World} {l : List As} {X : Nat → Prop} (h : Sep l w X) : Sep (noA :: l) w X := ⟨fun _ => False, X, fun _ h => h, h, fun _ h => h.elim, fun i => by simp⟩
theorem Sep.take {w : World} : ∀ (ks : List Nat) (l : List As) (X : Nat → Prop), Sep l w X → Sep ((takeOut l ks).1 ++ (takeOut l ks).2) w X
 | [], _, _, h => h
 | k :: ks, l, X, h => by
   have h1 : Sep (l.getD k noA :: l.eraseIdx k) w X := by
     rw [List.getD_eq_getElem?_getD]
     cases hk : l[k]? with
     | none => rw [List.eraseIdx_of_length_le (List.getElem?_eq_none_iff.1 hk)]; exact h.none
     | some p => exact h.front hk
   obtain ⟨A, B, hA, hB, hd, hx⟩ := h1; exact ⟨A, B, hA, Sep.take ks _ B hB, hd, hx⟩
theorem St.take {w : World} {l : List As} (h : St l w) (ks : List Nat) : St ((takeOut l ks).1 ++ (takeOut l ks).2) w := h.imp fun X hx => Sep.take ks l X hx
section
variable {w : World} {r : List As}
theorem TabB.mk {tb cm rm : Nat} {y : Int} (h : St (ObA tb 275 #[.map (some cm)] :: MapA intK 3 cm [(0, .agg #[vI 1, .map (some rm)])] :: MapA intK 3 rm [(1, .agg #[.int .u64 y, .bool false, vO, vO, vO, vO])] :: r) w) : St (TabB tb :: r) w :=
 St.pack (P := fun a : Nat × Nat × Int => sepA [ObA tb 275 #[.map (some a.1)], MapA intK 3 a.1 [(0, .agg #[vI 1, .map (some a.2.1)])], MapA intK 3 a.2.1 [(1, .agg #[.int .u64 a.2.2, .bool false, vO, vO, vO, vO])]]) (cm, rm, y) (St.fold (l := [_, _, _]) h)
theorem TabB.out {tb : Nat} (h : St (TabB tb :: r) w) : ∃ cm rm y, St (ObA tb 275 #[.map (some cm)] :: MapA intK 3 cm [(0, .agg #[vI 1, .map (some rm)])] :: MapA intK 3 rm [(1, .agg #[.int .u64 y, .bool false, vO, vO, vO, vO])] :: r) w := by
 obtain ⟨⟨cm, rm, y⟩, h⟩ := h.ex; exact ⟨cm, rm, y, h.flat⟩
theorem EndA.mk {e : Nat} {its : List LItem} {sent mark : Int} {v : Value} {n : Nat} {xs : List Value} (h : St (ObA e 200 #[v, vI sent, vI mark] :: RowA 317 4 v n xs :: r) w) (hn : its.length = n) (hx : its.flatMap litC = xs) : St (EndA e its sent mark :: r) w := by
 subst hn hx; exact St.pack (P := fun v : Value => sepA [ObA e 200 #[v, vI sent, vI mark], RowA 317 4 v its.length (its.flatMap litC)]) v (St.fold (l := [_, _]) h)
theorem EndA.out {e : Nat} {its : List LItem} {sent mark : Int} (h : St (EndA e its sent mark :: r) w) : ∃ v, St (ObA e 200 #[v, vI sent, vI mark] :: RowA 317 4 v its.length (its.flatMap litC) :: r) w := by
 obtain ⟨v, h⟩ := h.ex; exact ⟨v, h.flat⟩
theorem RegA.mk {rg sh mv st hm : Nat} {me : Int} {s : Sk.Stk} (h : St (ObA rg 130 #[vI me, vI 2, ptr sh, ptr mv, vN] :: ObA sh 197 #[ptr st, .map (some hm)] :: StkA st s :: r) w) : St (RegA rg me s :: r) w :=
 St.pack (P := fun a : Nat × Nat × Nat × Nat => sepA [ObA rg 130 #[vI me, vI 2, ptr a.1, ptr a.2.1, vN], ObA a.1 197 #[ptr a.2.2.1, .map (some a.2.2.2)], StkA a.2.2.1 s]) (sh, mv, st, hm) (St.fold (l := [_, _, _]) h)
theorem RegA.out {rg : Nat} {me : Int} {s : Sk.Stk} (h : St (RegA rg me s :: r) w) : ∃ sh mv st hm, St (ObA rg 130 #[vI me, vI 2, ptr sh, ptr mv, vN] :: ObA sh 197 #[ptr st, .map (some hm)] :: StkA st s :: r) w := by
 obtain ⟨⟨sh, mv, st, hm⟩, h⟩ := h.ex; exact ⟨sh, mv, st, hm, h.flat⟩
theorem DeskA.mk {dk : Nat} {me : Int} {a : Da} (h : St (ObA dk 145 (deskC me a vN) :: MapA intK 3 a.sm [] :: MapA strK 369 a.om [] :: ObA a.bl 278 #[vN, vO] :: r) w) : St (DeskA dk me :: r) w :=
 St.pack (P := fun a : Da => sepA [ObA dk 145 (deskC me a vN), MapA intK 3 a.sm [], MapA strK 369 a.om [], ObA a.bl 278 #[vN, vO]]) a (St.fold (l := [_, _, _, _]) h)
theorem DeskA.out {dk : Nat} {me : Int} (h : St (DeskA dk me :: r) w) : ∃ a : Da, St (ObA dk 145 (deskC me a vN) :: MapA intK 3 a.sm [] :: MapA strK 369 a.om [] :: ObA a.bl 278 #[vN, vO] :: r) w := by
 obtain ⟨a, h⟩ := h.ex; exact ⟨a, h.flat⟩
theorem DeskN.mk {dk : Nat} {me : Int} {a : Da} (h : St (ObA dk 145 (deskC me a vN) :: MapA intK 3 a.sm [] :: MapA strK 369 a.om [] :: ObA a.bl 278 #[vN, vO] :: TabA a.tb :: r) w) : St (DeskN dk me :: r) w :=
 St.pack (P := fun a : Da => sepA [ObA dk 145 (deskC me a vN), MapA intK 3 a.sm [], MapA strK 369 a.om [], ObA a.bl 278 #[vN, vO], TabA a.tb]) a (St.fold (l := [_, _, _, _, _]) h)
theorem DeskN.out {dk : Nat} {me : Int} (h : St (DeskN dk me :: r) w) : ∃ a : Da, St (ObA dk 145 (deskC me a vN) :: MapA intK 3 a.sm [] :: MapA strK 369 a.om [] :: ObA a.bl 278 #[vN, vO] :: TabA a.tb :: r) w := by
 obtain ⟨a, h⟩ := h.ex; exact ⟨a, h.flat⟩
theorem DeskN.desk {dk : Nat} {me : Int} (h : St (DeskN dk me :: r) w) : St (DeskA dk me :: r) w := by
 obtain ⟨a, h⟩ := DeskN.out h; have q := ((h.front 4 rfl).drop : St _ w); exact DeskA.mk q
abbrev openV (sv : Value) : Value := .agg #[vI 1, vO, vI 1, vI 6, vO, vO, vO, vO, vE, sv]
end
def BtA (bt : Nat) : As := ⟨fun w X => bt < w.heap.size ∧ ∀ i, X i ↔ i = bt, fun _ _ _ h hk => ⟨Nat.lt_of_lt_of_le h.1 hk.size, h.2⟩, fun _ _ h i hi => by rw [(h.2 i).1 hi]; exact h.1⟩
theorem Sep.bt {w w' : World} {bt : Nat} (hg : w.grownBy w' (some bt)) : ∀ (l : List As) (X : Nat → Prop) (k : Nat), l[k]? = some (BtA bt) → Sep l w X → Sep l w' X
 | [], _, _, hk, _ => by simp at hk
 | p :: r, X, 0, hk, h => by
   obtain rfl : p = BtA bt := by simpa using hk
   obtain ⟨A, B, hA, hB, hd, hx⟩ := h; refine ⟨A, B, ⟨Nat.lt_of_lt_of_le hA.1 hg.size, hA.2⟩, hB.kept (Kept.of_grown hg fun i hi => ⟨hB.lt i hi, fun e => hd i ((hA.2 i).2 (by injection e)) hi⟩), hd, hx⟩
 | p :: r, X, k + 1, hk, h => by
   obtain ⟨A, B, hA, hB, hd, hx⟩ := h; have hk' : r[k]? = some (BtA bt) := by simpa using hk
   obtain ⟨C, D, hC, hD, hcd, hb⟩ := hB.front hk'; refine ⟨A, B, p.kept _ _ _ hA (Kept.of_grown hg fun i hi => ⟨p.lt _ _ hA i hi, fun e => hd i hi ((hb i).2 (.inl ((hC.2 i).2 (by injection e))))⟩), Sep.bt hg r B k hk' hB, hd, hx⟩
theorem St.bt {w w' : World} {l : List As} {bt : Nat} (h : St l w) (k : Nat) (hk : l[k]? = some (BtA bt)) (hg : w.grownBy w' (some bt)) : St l w' := h.imp fun X hx => Sep.bt hg l X k hk hx
theorem St.fresh {w0 w : World} {r : List As} {e : TypeId} {size n : Nat} {v : Value} {xs : List Value} (h : St (RowA e size v n xs :: OldA w0 :: r) w) : w.ownsRow w0.heap.size e size v n xs ∧ Below w0.heap.size w0 w := by
 obtain ⟨A, B, hA, hB, hd, -⟩ := h.cut2; refine ⟨⟨hA.1.1, ?_⟩, hB.1⟩; rcases hA.1.2 with q | ⟨g, cap, cur, q1, q2, q3, q4⟩
 · exact .inl q
 · refine .inr ⟨g, cap, cur, q1, ?_, q3, q4⟩
   have hg : ¬ B g := hd g ((hA.2 g).2 (by rw [q1]; rfl)); rw [hB.2] at hg; omega
end
end Tp
end Go.Proofs.YtgcnhmjpfbbfcaaGreat
