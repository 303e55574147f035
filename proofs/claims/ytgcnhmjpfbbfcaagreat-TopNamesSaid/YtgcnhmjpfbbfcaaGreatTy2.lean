/-
  part of the proof of TopNames.
-/
import Derived.Test.YtgcnhmjpfbbfcaaGreatTy1
import Derived.RangeFuncNested
import Derived.Deep.MidRow
import Derived.Deep.AppendLies
import Derived.Laws.MakeOwn
import Derived.Maps.RangeWalk
import Derived.MapFrom
import Derived.ChangeMaps5
import Derived.OwnWalk
import Derived.Laws.LoneSync
set_option linter.unusedVariables false
set_option linter.unusedSimpArgs false
set_option maxRecDepth 100000
set_option maxHeartbeats 8000000
namespace Go.Proofs.YtgcnhmjpfbbfcaaGreat
namespace Wa
section
open Go.RowKit Go.Maps
open Ce Se
section
variable {σ : Type}
def wrG (wr : σ → Int → Blk → σ × Int) (D : σ) (k : Int) (f : Nat → Blk) : Nat → σ × Int
 | 0 => (D, 0)
 | j + 1 => if (wrG wr D k f j).2 = 0 then wr (wrG wr D k f j).1 (k + j) (f j) else wrG wr D k f j
theorem wrG_bad {wr : σ → Int → Blk → σ × Int} {D : σ} {k : Int} {f : Nat → Blk} {j : Nat} (h : (wrG wr D k f j).2 ≠ 0) : ∀ n, j ≤ n → wrG wr D k f n = wrG wr D k f j
 | 0, hn => by obtain rfl : j = 0 := by omega
               rfl
 | n + 1, hn => by
   by_cases e : j = n + 1
   · rw [e]
   · have ih := wrG_bad h n (by omega)
     simp only [wrG]; rw [ih, if_neg h]
structure Lg where
 g : Int
 half : Nat
 es : List (List UInt8)
 sure : Nat
 fin : Bool
def base (half size : Nat) : Int := 2 + half * size
def anewG (wr : σ → Int → Blk → σ × Int) (fl : σ → σ × Int) (D : σ) (g : Int) (half size : Nat) (es : List (List UInt8)) : σ × Int :=
 let r1 := wrG wr D (base (1 - half) size) (chF (strm es)) (nch (strm es))
 if r1.2 ≠ 0 then r1 else
 let r2 := wrG wr r1.1 (base (1 - half) size + nch (strm es)) (fun _ => List.replicate 64 0) (size - nch (strm es))
 if r2.2 ≠ 0 then r2 else
 let r3 := fl r2.1
 if r3.2 ≠ 0 then r3 else
 let r4 := wr r3.1 ((wrap64 (g + 1)).tmod 2) (headB (wrap64 (g + 1)) (1 - half))
 if r4.2 ≠ 0 then r4 else fl r4.1
def anewL (L : Lg) (es : List (List UInt8)) (e : Int) : Lg := if e = 0 then ⟨wrap64 (L.g + 1), 1 - L.half, es, es.length, false⟩ else { L with fin := true }
def used (L : Lg) : Nat := (strm L.es).length
def roomL (L : Lg) (size : Nat) : Int := 63 * size - used L
def appG (wr : σ → Int → Blk → σ × Int) (D : σ) (L : Lg) (size : Nat) (b : List UInt8) : σ × Int :=
 wrG wr D (base L.half size + (used L / 63 : Nat)) (fun j => chF (strm (L.es ++ [b])) (used L / 63 + j)) (nch (strm (L.es ++ [b])) - used L / 63)
def appendG (wr : σ → Int → Blk → σ × Int) (D : σ) (L : Lg) (size : Nat) (b : List UInt8) : σ × Lg × Int × Int :=
 if b.length > 65536 then (D, L, 0, 3) else if (b.length : Int) + 3 > roomL L size then (D, L, 0, 2) else if L.fin then (D, L, 0, 30) else
 let r := appG wr D L size b
 if r.2 ≠ 0 then (r.1, { L with fin := true }, 0, r.2) else (r.1, { L with es := L.es ++ [b] }, L.es.length, 0)
def syncG (fl : σ → σ × Int) (D : σ) (L : Lg) : σ × Lg × Int :=
 if L.fin then (D, L, 30) else let r := fl D; if r.2 ≠ 0 then (r.1, { L with fin := true }, r.2) else (r.1, { L with sure := L.es.length }, 0)
def findG (last : Nat → Blk) : Int × Nat :=
 let a := isHd (last 0) 0
 let p : Int × Nat := if a.1 > 0 then a else (0, 1)
 let b := isHd (last 1) 1
 if b.1 > p.1 then b else p
def foundG (last : Nat → Blk) (size : Nat) : List (List UInt8) :=
 if (findG last).1 = 0 then [] else entP (strmOf ((List.range size).map fun i => last (2 + (findG last).2 * size + i)))
def openG (wr : σ → Int → Blk → σ × Int) (fl : σ → σ × Int) (last : σ → Nat → Blk) (off : σ → Bool) (len : Nat) (D : σ) : σ × Option Lg × Int :=
 if len < 4 then (D, none, 1) else if off D then (D, none, 30) else
 let p := findG (last D)
 let es := foundG (last D) ((len - 2) / 2)
 let r := anewG wr fl D p.1 p.2 ((len - 2) / 2) es
 if r.2 ≠ 0 then (r.1, none, r.2) else (r.1, some (anewL ⟨p.1, p.2, [], 0, true⟩ es 0), 0)
end
theorem findG_bd (last : Nat → Blk) : 0 ≤ (findG last).1 ∧ (findG last).2 ≤ 1 := by
 have h0 := isHd_bd (last 0) 0; have h1 := isHd_bd (last 1) 1; unfold findG; dsimp only
 by_cases ha : (isHd (last 0) 0).1 > 0
 · rw [if_pos ha]
   split <;> omega
 · rw [if_neg ha]
   split
   · omega
   · simp
theorem foundG_fits (last : Nat → Blk) (size : Nat) : (strm (foundG last size)).length ≤ 63 * size ∧ ∀ e ∈ foundG last size, e.length ≤ 65536 := by
 unfold foundG
 split
 · simp [strm]
 · have h := entP_fits _ (strmOf ((List.range size).map fun i => last (2 + (findG last).2 * size + i))) (Nat.le_refl _)
   have h2 := strmOf_len ((List.range size).map fun i => last (2 + (findG last).2 * size + i)); rw [List.length_map, List.length_range] at h2; exact ⟨by omega, h.2⟩
section
variable {σ τ : Type} {wr : σ → Int → Blk → σ × Int} {fl : σ → σ × Int} {wr' : τ → Int → Blk → τ × Int} {fl' : τ → τ × Int} {Rel : σ → τ → Prop}
end
end
section
open Go.RowKit Go.Maps
open Ce Se
structure Alive (D : Dv) (n : Nat) : Prop where
 ok : OkD D
 stops : D.stops = false
 len : D.sure.length = n
theorem Alive.off {D : Dv} {n : Nat} (h : Alive D n) : offD D = false := by simp [offD, h.stops]
theorem Alive.new (n : Nat) : Alive (newD n) n := ⟨OkD.new n, rfl, by simp [newD]⟩
theorem newD_last {n i : Nat} (hi : i < n) : lastD (newD n) i = List.replicate 64 0 := by
 simp [lastD, newD, bGet, hi]
theorem Alive.write {D : Dv} {n i : Nat} {b : Blk} (h : Alive D n) (hi : i < n) (hb : b.length = 64) :
   (writeD D i b).2 = 0 ∧ Alive (writeD D i b).1 n ∧ ∀ j, lastD (writeD D i b).1 j = if j = i then b else lastD D j := by
 have hl := h.len
 have he : writeD D i b = ({ spendD D with dm := bPut D.dm i b, wr := wrap64 (D.wr + 1) }, 0) := by
   unfold writeD; rw [if_neg (by omega), h.off]
   rfl
 have hok := h.ok.write i b; rw [he] at hok ⊢; refine ⟨rfl, ⟨hok, ?_, ?_⟩, fun j => ?_⟩
 · exact (spendD_stops D).trans h.stops
 · show (spendD D).sure.length = n
   rw [spendD_sure]; exact hl
 · show (bGet (bPut D.dm i b) j).getD ((spendD D).sure.getD j []) = _
   rw [bGet_put, spendD_sure]
   by_cases e : j = i
   · rw [if_pos (by omega), if_pos e]; rfl
   · rw [if_neg (by omega), if_neg e]; rfl
theorem Alive.flush {D : Dv} {n : Nat} (h : Alive D n) : (flushD D).2 = 0 ∧ Alive (flushD D).1 n ∧ ∀ j, j < n → lastD (flushD D).1 j = lastD D j := by
 have hl := h.len; have hok := h.ok.flush
 have he : flushD D = ({ spendD D with sure := (List.range D.sure.length).map (lastD D), dm := [], fl := wrap64 (D.fl + 1) }, 0) := by
   unfold flushD; rw [h.off]
   rfl
 rw [he] at hok ⊢; refine ⟨rfl, ⟨hok, (spendD_stops D).trans h.stops, by simp [hl]⟩, fun j hj => ?_⟩; show (none : Option Blk).getD (((List.range D.sure.length).map (lastD D)).getD j []) = _; rw [getD_range _ _ _ (by omega)]
 rfl
theorem Alive.wrs {D : Dv} {n k : Nat} (h : Alive D n) {f : Nat → Blk} (hf : ∀ j, (f j).length = 64) : ∀ m, k + m ≤ n →
   (wrG writeD D k f m).2 = 0 ∧ Alive (wrG writeD D k f m).1 n ∧ ∀ j, lastD (wrG writeD D k f m).1 j = if k ≤ j ∧ j < k + m then f (j - k) else lastD D j
 | 0, _ => ⟨rfl, h, fun j => by rw [if_neg (by omega)]; rfl⟩
 | m + 1, hm => by
   obtain ⟨i1, i2, i3⟩ := h.wrs (k := k) hf m (by omega); simp only [wrG]; rw [i1, if_pos rfl]; obtain ⟨w1, w2, w3⟩ := i2.write (i := k + m) (b := f m) (by omega) (hf m); rw [show ((k + m : Nat) : Int) = (k : Int) + (m : Int) by omega] at w1 w2 w3; refine ⟨w1, w2, fun j => ?_⟩; rw [w3 j]
   by_cases e : j = k + m
   · rw [if_pos e, if_pos (by omega), e, show k + m - k = m by omega]
   · rw [if_neg e, i3 j]
     by_cases e2 : k ≤ j ∧ j < k + m
     · rw [if_pos e2, if_pos (by omega)]
     · rw [if_neg e2, if_neg (by omega)]
theorem nch_le {l : List UInt8} {n : Nat} (h : l.length ≤ 63 * n) : nch l ≤ n := by unfold nch; omega
structure Lay (D : Dv) (n : Nat) (g : Int) (half : Nat) (es : List (List UInt8)) : Prop where
 al : Alive D n
 four : 4 ≤ n
 g1 : 1 ≤ g
 g2 : g < 9223372036854775808
 hf : half ≤ 1
 fits : (strm es).length ≤ 63 * ((n - 2) / 2)
 ok : ∀ e ∈ es, e.length ≤ 65536
 head : lastD D (g % 2).toNat = headB g half
 other : (isHd (lastD D (1 - g % 2).toNat) (1 - g % 2).toNat).1 < g
 body : ∀ i, i < (n - 2) / 2 → lastD D (2 + half * ((n - 2) / 2) + i) = chF (strm es) i
theorem tmod2 {g : Int} (h : 0 ≤ g) : g.tmod 2 = g % 2 := Int.tmod_eq_emod_of_nonneg h
theorem Alive.anew {D : Dv} {n : Nat} (h : Alive D n) (h4 : 4 ≤ n) {g : Int} {half : Nat} (hg0 : 0 ≤ g) (hg1 : g + 1 < 9223372036854775808) (hh : half ≤ 1) {es : List (List UInt8)} (hfit : (strm es).length ≤ 63 * ((n - 2) / 2)) (hok : ∀ e ∈ es, e.length ≤ 65536)
   (hold : (isHd (lastD D (g % 2).toNat) (g % 2).toNat).1 < g + 1) :
   (anewG writeD flushD D g half ((n - 2) / 2) es).2 = 0 ∧ Lay (anewG writeD flushD D g half ((n - 2) / 2) es).1 n (g + 1) (1 - half) es := by
 have hw : wrap64 (g + 1) = g + 1 := by unfold wrap64; omega
 have hn := nch_le hfit
 have hb : (1 - half) * ((n - 2) / 2) ≤ (n - 2) / 2 := by
   have := Nat.mul_le_mul_right ((n - 2) / 2) (show 1 - half ≤ 1 by omega); omega
 obtain ⟨bs, hbs⟩ : ∃ bs : Nat, 2 + (1 - half) * ((n - 2) / 2) = bs := ⟨_, rfl⟩; have hbase : base (1 - half) ((n - 2) / 2) = (bs : Int) := by unfold base; rw [← hbs]; omega
 have hb2 : 2 ≤ bs := by omega
 have hb3 : bs + (n - 2) / 2 ≤ n := by omega
 unfold anewG; rw [hbase, hw, tmod2 (by omega)]; obtain ⟨a1, a2, a3⟩ := h.wrs (k := bs) (f := chF (strm es)) (chF_len _) (nch (strm es)) (by omega); generalize wrG writeD D bs (chF (strm es)) (nch (strm es)) = x1 at *; dsimp only; rw [if_neg (by rw [a1]; simp)]; obtain ⟨b1, b2, b3⟩ := a2.wrs (k := bs + nch (strm es)) (f := fun _ => List.replicate 64 0) (fun _ => by simp) ((n - 2) / 2 - nch (strm es)) (by omega); rw [show ((bs + nch (strm es) : Nat) : Int) = (bs : Int) + (nch (strm es) : Int) by omega] at b1 b2 b3; generalize wrG writeD x1.1 (bs + nch (strm es)) (fun _ => List.replicate 64 0) ((n - 2) / 2 - nch (strm es)) = x2 at *; rw [if_neg (by rw [b1]; simp)]; obtain ⟨c1, c2, c3⟩ := b2.flush; generalize flushD x2.1 = x3 at *; rw [if_neg (by rw [c1]; simp)]; obtain ⟨gi, hgi⟩ : ∃ gi : Nat, (g + 1) % 2 = gi := ⟨((g + 1) % 2).toNat, by omega⟩; rw [hgi]; obtain ⟨d1, d2, d3⟩ := c2.write (i := gi) (b := headB (g + 1) (1 - half)) (by omega) (headB_len _ _); generalize writeD x3.1 gi (headB (g + 1) (1 - half)) = x4 at *; rw [if_neg (by rw [d1]; simp)]; obtain ⟨e1, e2, e3⟩ := d2.flush; generalize flushD x4.1 = x5 at *
 have at2 : ∀ j, j < n → lastD x5.1 j = if j = gi then headB (g + 1) (1 - half) else if bs + nch (strm es) ≤ j ∧ j < bs + (n - 2) / 2 then List.replicate 64 0 else if bs ≤ j ∧ j < bs + nch (strm es) then chF (strm es) (j - bs) else lastD D j := fun j hj => by
   rw [e3 j hj, d3 j]
   by_cases h1 : j = gi
   · rw [if_pos h1, if_pos h1]
   · rw [if_neg h1, if_neg h1, c3 j hj, b3 j, a3 j]
     by_cases h2 : bs + nch (strm es) ≤ j ∧ j < bs + (n - 2) / 2
     · rw [if_pos h2, if_pos (by omega)]
     · rw [if_neg h2, if_neg (by omega)]
 refine ⟨e1, e2, h4, by omega, hg1, by omega, hfit, hok, ?_, ?_, fun i hi => ?_⟩
 · rw [hgi, at2 _ (by omega), if_pos (by simp)]
 · have e : (1 - (g + 1) % 2).toNat = (g % 2).toNat := by omega
   rw [e, at2 _ (by omega), if_neg (by omega), if_neg (by omega), if_neg (by omega)]; exact hold
 · rw [hbs, at2 _ (by omega), if_neg (by omega)]
   by_cases h1 : nch (strm es) ≤ i
   · rw [if_pos (by omega), chF_far h1]
   · rw [if_neg (by omega), if_pos (by omega), show bs + i - bs = i by omega]
theorem isHd_low {n i : Nat} (hi : i < n) (k : Nat) : isHd (lastD (newD n) i) k = (0, 0) := by rw [newD_last hi, isHd_zero]
theorem open_new {n : Nat} (h4 : 4 ≤ n) :
   (openG writeD flushD lastD offD n (newD n)).2.2 = 0 ∧ (openG writeD flushD lastD offD n (newD n)).2.1 = some ⟨1, 0, [], 0, false⟩ ∧ Lay (openG writeD flushD lastD offD n (newD n)).1 n 1 0 [] := by
 have hA := Alive.new n
 have hf : findG (lastD (newD n)) = (0, 1) := by
   unfold findG; rw [isHd_low (by omega), isHd_low (by omega)]
   rfl
 have hfo : foundG (lastD (newD n)) ((n - 2) / 2) = [] := by
   unfold foundG; rw [hf]
   rfl
 obtain ⟨a1, a2⟩ := hA.anew h4 (g := 0) (half := 1) (by omega) (by omega) (by omega) (es := []) (by simp [strm]) (fun e he => by cases he) (by rw [isHd_low (by simp; omega)]; simp); unfold openG; rw [if_neg (by omega), hA.off, if_neg (by simp), hf, hfo]; dsimp only; rw [if_neg (by rw [a1]; simp)]; refine ⟨rfl, ?_, a2⟩; have hw : wrap64 (0 + 1) = 1 := by unfold wrap64; omega
 unfold anewL; rw [if_pos rfl]; dsimp only; rw [hw]
 rfl
theorem Lay.append {D : Dv} {n : Nat} {L : Lg} (h : Lay D n L.g L.half L.es) (hfin : L.fin = false) (b : List UInt8) :
   (b.length > 65536 ∧ appendG writeD D L ((n - 2) / 2) b = (D, L, 0, 3)) ∨ (b.length ≤ 65536 ∧ (b.length : Int) + 3 > roomL L ((n - 2) / 2) ∧ appendG writeD D L ((n - 2) / 2) b = (D, L, 0, 2)) ∨
   (b.length ≤ 65536 ∧ (b.length : Int) + 3 ≤ roomL L ((n - 2) / 2) ∧ ∃ D', appendG writeD D L ((n - 2) / 2) b = (D', { L with es := L.es ++ [b] }, (L.es.length : Int), 0) ∧ Lay D' n L.g L.half (L.es ++ [b])) := by
 unfold appendG
 by_cases h1 : b.length > 65536
 · rw [if_pos h1]; exact .inl ⟨h1, rfl⟩
 rw [if_neg h1]
 by_cases h2 : (b.length : Int) + 3 > roomL L ((n - 2) / 2)
 · rw [if_pos h2]; exact .inr (.inl ⟨by omega, h2, rfl⟩)
 rw [if_neg h2, hfin, if_neg (by simp)]; refine .inr (.inr ⟨by omega, by omega, ?_⟩); have hu : used L = (strm L.es).length := rfl; have hs := strm_snoc L.es b; have hle := encE_len b
 have hfit : (strm (L.es ++ [b])).length ≤ 63 * ((n - 2) / 2) := by
   rw [hs, List.length_append, hle]; unfold roomL at h2; omega
 have hn := nch_le hfit; have h4 := h.four
 have hb : L.half * ((n - 2) / 2) ≤ (n - 2) / 2 := by
   have := Nat.mul_le_mul_right ((n - 2) / 2) h.hf; omega
 obtain ⟨bs, hbs⟩ : ∃ bs : Nat, 2 + L.half * ((n - 2) / 2) = bs := ⟨_, rfl⟩; have hbase : base L.half ((n - 2) / 2) = (bs : Int) := by unfold base; rw [← hbs]; omega
 have hnc : used L / 63 ≤ nch (strm (L.es ++ [b])) := by
   unfold nch; rw [hs, List.length_append, hle]; omega
 obtain ⟨a1, a2, a3⟩ := h.al.wrs (k := bs + used L / 63) (f := fun j => chF (strm (L.es ++ [b])) (used L / 63 + j)) (fun _ => chF_len _ _) (nch (strm (L.es ++ [b])) - used L / 63) (by omega)
 have ea : appG writeD D L ((n - 2) / 2) b = wrG writeD D ((bs + used L / 63 : Nat) : Int) (fun j => chF (strm (L.es ++ [b])) (used L / 63 + j)) (nch (strm (L.es ++ [b])) - used L / 63) := by
   unfold appG; rw [hbase]
   rfl
 rw [ea]; generalize wrG writeD D ((bs + used L / 63 : Nat) : Int) (fun j => chF (strm (L.es ++ [b])) (used L / 63 + j)) (nch (strm (L.es ++ [b])) - used L / 63) = x at *; dsimp only; rw [if_neg (by rw [a1]; simp)]; refine ⟨x.1, rfl, a2, h4, h.g1, h.g2, h.hf, hfit, fun e he => ?_, ?_, ?_, fun i hi => ?_⟩
 · rcases List.mem_append.1 he with he | he
   · exact h.ok e he
   · rw [List.mem_singleton.1 he]; omega
 · rw [a3, if_neg (by omega)]; exact h.head
 · rw [a3, if_neg (by omega)]; exact h.other
 · rw [hbs, a3]
   by_cases h3 : bs + used L / 63 ≤ bs + i ∧ bs + i < bs + used L / 63 + (nch (strm (L.es ++ [b])) - used L / 63)
   · rw [if_pos h3, show used L / 63 + (bs + i - (bs + used L / 63)) = i by omega]
   · rw [if_neg h3, ← hbs, h.body i hi]
     by_cases h5 : i < used L / 63
     · unfold chF
       congr 1
       rw [hs, List.drop_append_of_le_length (by omega), List.take_append_of_le_length (by rw [List.length_drop]; omega)]
     · rw [chF_far (l := strm (L.es ++ [b])) (by omega), chF_far (by unfold nch at h3 ⊢; rw [hs, List.length_append, hle] at h3; omega)]
theorem Lay.sync {D : Dv} {n : Nat} {L : Lg} (h : Lay D n L.g L.half L.es) (hfin : L.fin = false) : ∃ D', syncG flushD D L = (D', { L with sure := L.es.length }, 0) ∧ Lay D' n L.g L.half L.es := by
 obtain ⟨a1, a2, a3⟩ := h.al.flush; unfold syncG; rw [hfin, if_neg (by simp)]; dsimp only; rw [if_neg (by rw [a1]; simp)]; have h4 := h.four
 have hb : L.half * ((n - 2) / 2) ≤ (n - 2) / 2 := by
   have := Nat.mul_le_mul_right ((n - 2) / 2) h.hf; omega
 exact ⟨_, rfl, a2, h4, h.g1, h.g2, h.hf, h.fits, h.ok, by rw [a3 _ (by omega)]; exact h.head, by rw [a3 _ (by omega)]; exact h.other, fun i hi => by rw [a3 _ (by omega)]; exact h.body i hi⟩
theorem beF_lt : ∀ (l : List UInt8), be l < 256 ^ l.length := fun l => be_lt l.length l rfl
theorem isHd_lt (b : Blk) (i : Nat) : (isHd b i).1 < 9223372036854775808 := by
 unfold isHd
 split
 · simp
 · have h := beF_lt (b.take 8)
   have h2 : 256 ^ (b.take 8).length ≤ 256 ^ 8 := Nat.pow_le_pow_right (by omega) (by rw [List.length_take]; omega); exact (toI_bd (u := be (b.take 8)) (by omega)).2
theorem findG_lt (last : Nat → Blk) : (findG last).1 < 9223372036854775808 := by
 have h0 := isHd_lt (last 0) 0; have h1 := isHd_lt (last 1) 1; unfold findG; dsimp only
 by_cases ha : (isHd (last 0) 0).1 > 0
 · rw [if_pos ha]
   split <;> omega
 · rw [if_neg ha]
   split
   · omega
   · simp
structure LgOk (L : Lg) (size : Nat) : Prop where
 g1 : -9223372036854775808 ≤ L.g
 g2 : L.g < 9223372036854775808
 hf : L.half ≤ 1
 fits : (strm L.es).length ≤ 63 * size
 ok : ∀ e ∈ L.es, e.length ≤ 65536
 sure : L.sure ≤ L.es.length
theorem wrap64_lt (x : Int) : -9223372036854775808 ≤ wrap64 x ∧ wrap64 x < 9223372036854775808 := by unfold wrap64; omega
theorem LgOk.append {σ : Type} {wr : σ → Int → Blk → σ × Int} {D : σ} {L : Lg} {size : Nat} (h : LgOk L size) (b : List UInt8) : LgOk (appendG wr D L size b).2.1 size := by
 unfold appendG
 split
 · exact h
 rename_i h1
 split
 · exact h
 rename_i h2
 split
 · exact h
 dsimp only
 split
 · exact ⟨h.g1, h.g2, h.hf, h.fits, h.ok, h.sure⟩
 · refine ⟨h.g1, h.g2, h.hf, ?_, fun e he => ?_, ?_⟩
   · show (strm (L.es ++ [b])).length ≤ _
     unfold roomL used at h2; rw [strm_snoc, List.length_append, encE_len]; omega
   · rcases List.mem_append.1 he with he | he
     · exact h.ok e he
     · rw [List.mem_singleton.1 he]; omega
   · have := h.sure
     show L.sure ≤ (L.es ++ [b]).length; rw [List.length_append]; omega
theorem openG_ok {σ : Type} {wr : σ → Int → Blk → σ × Int} {fl : σ → σ × Int} {last : σ → Nat → Blk} {off : σ → Bool} {len : Nat} {D : σ} {L : Lg} (h : (openG wr fl last off len D).2.1 = some L) : LgOk L ((len - 2) / 2) ∧ 4 ≤ len ∧ (openG wr fl last off len D).2.2 = 0 := by
 unfold openG at h ⊢
 split
 · rename_i h1; rw [if_pos h1] at h; cases h
 rename_i h1
 rw [if_neg h1] at h
 split
 · rename_i h2; rw [if_pos h2] at h; cases h
 rename_i h2
 rw [if_neg h2] at h; dsimp only at h ⊢
 split
 · rename_i h3; rw [if_pos h3] at h; cases h
 rename_i h3
 rw [if_neg h3] at h; refine ⟨?_, by omega, rfl⟩
 cases h
 obtain ⟨f1, f2⟩ := foundG_fits (last D) ((len - 2) / 2); have hb := findG_bd (last D); have hl := findG_lt (last D); unfold anewL; rw [if_pos rfl]; exact ⟨(wrap64_lt _).1, (wrap64_lt _).2, by dsimp only; omega, f1, f2, Nat.le_refl _⟩
theorem lenW (D : Dv) (i : Int) (b : Blk) : (writeD D i b).1.sure.length = D.sure.length := by
 unfold writeD
 split
 · rfl
 split
 · rfl
 · show (spendD D).sure.length = _
   rw [spendD_sure]
theorem lenF (D : Dv) : (flushD D).1.sure.length = D.sure.length := by
 unfold flushD
 split
 · rfl
 · simp
end
end Wa
section
open Go.RowKit
def Ob (w : World) (b : Nat) (t : TypeId) (cs : Array Value) : Prop := w.heap[b]? = some (.cells cs t (0, 0))
section
variable {w w' : World} {b b' j B : Nat} {t : TypeId} {cs : Array Value} {row : Option Nat}
theorem Ob.lt (h : Ob w b t cs) : b < w.heap.size := (Array.getElem?_eq_some_iff.1 h).1
theorem Ob.cell (h : Ob w b t cs) {v : Value} (hj : cs[j]? = some v) : w.cell? ⟨b, j, none⟩ = some v := by
 simp [World.cell?, show w.heap[b]? = _ from h, hj]
theorem Ob.k (h : Ob w b t cs) (j : Nat) {v : Value} (hj : cs[j]? = some v) : w.cell? ⟨b, j, none⟩ = some v := h.cell hj
theorem Ob.k4 (h : Ob w b t cs) {v0 v1 v2 v3 : Value} (e0 : cs[0]? = some v0) (e1 : cs[1]? = some v1) (e2 : cs[2]? = some v2) (e3 : cs[3]? = some v3) : w.cell? ⟨b, 0, none⟩ = some v0 ∧ w.cell? ⟨b, 1, none⟩ = some v1 ∧ w.cell? ⟨b, 2, none⟩ = some v2 ∧ w.cell? ⟨b, 3, none⟩ = some v3 := ⟨h.cell e0, h.cell e1, h.cell e2, h.cell e3⟩
theorem Ob.k7 (h : Ob w b t cs) {v0 v1 v2 v3 v4 v5 v6 : Value} (e0 : cs[0]? = some v0) (e1 : cs[1]? = some v1) (e2 : cs[2]? = some v2) (e3 : cs[3]? = some v3) (e4 : cs[4]? = some v4) (e5 : cs[5]? = some v5) (e6 : cs[6]? = some v6) : w.cell? ⟨b, 0, none⟩ = some v0 ∧ w.cell? ⟨b, 1, none⟩ = some v1 ∧ w.cell? ⟨b, 2, none⟩ = some v2 ∧ w.cell? ⟨b, 3, none⟩ = some v3 ∧ w.cell? ⟨b, 4, none⟩ = some v4 ∧ w.cell? ⟨b, 5, none⟩ = some v5 ∧ w.cell? ⟨b, 6, none⟩ = some v6 := ⟨h.cell e0, h.cell e1, h.cell e2, h.cell e3, h.cell e4, h.cell e5, h.cell e6⟩
theorem Ob.k8 (h : Ob w b t cs) {v0 v1 v2 v3 v4 v5 v6 v7 : Value} (e0 : cs[0]? = some v0) (e1 : cs[1]? = some v1) (e2 : cs[2]? = some v2) (e3 : cs[3]? = some v3) (e4 : cs[4]? = some v4) (e5 : cs[5]? = some v5) (e6 : cs[6]? = some v6) (e7 : cs[7]? = some v7) : w.cell? ⟨b, 0, none⟩ = some v0 ∧ w.cell? ⟨b, 1, none⟩ = some v1 ∧ w.cell? ⟨b, 2, none⟩ = some v2 ∧ w.cell? ⟨b, 3, none⟩ = some v3 ∧ w.cell? ⟨b, 4, none⟩ = some v4 ∧ w.cell? ⟨b, 5, none⟩ = some v5 ∧ w.cell? ⟨b, 6, none⟩ = some v6 ∧ w.cell? ⟨b, 7, none⟩ = some v7 := ⟨h.cell e0, h.cell e1, h.cell e2, h.cell e3, h.cell e4, h.cell e5, h.cell e6, h.cell e7⟩
theorem Ob.k9 (h : Ob w b t cs) {v0 v1 v2 v3 v4 v5 v6 v7 v8 : Value} (e0 : cs[0]? = some v0) (e1 : cs[1]? = some v1) (e2 : cs[2]? = some v2) (e3 : cs[3]? = some v3) (e4 : cs[4]? = some v4) (e5 : cs[5]? = some v5) (e6 : cs[6]? = some v6) (e7 : cs[7]? = some v7) (e8 : cs[8]? = some v8) : w.cell? ⟨b, 0, none⟩ = some v0 ∧ w.cell? ⟨b, 1, none⟩ = some v1 ∧ w.cell? ⟨b, 2, none⟩ = some v2 ∧ w.cell? ⟨b, 3, none⟩ = some v3 ∧ w.cell? ⟨b, 4, none⟩ = some v4 ∧ w.cell? ⟨b, 5, none⟩ = some v5 ∧ w.cell? ⟨b, 6, none⟩ = some v6 ∧ w.cell? ⟨b, 7, none⟩ = some v7 ∧ w.cell? ⟨b, 8, none⟩ = some v8 := ⟨h.cell e0, h.cell e1, h.cell e2, h.cell e3, h.cell e4, h.cell e5, h.cell e6, h.cell e7, h.cell e8⟩
theorem Ob.k10 (h : Ob w b t cs) {v0 v1 v2 v3 v4 v5 v6 v7 v8 v9 : Value} (e0 : cs[0]? = some v0) (e1 : cs[1]? = some v1) (e2 : cs[2]? = some v2) (e3 : cs[3]? = some v3) (e4 : cs[4]? = some v4) (e5 : cs[5]? = some v5) (e6 : cs[6]? = some v6) (e7 : cs[7]? = some v7) (e8 : cs[8]? = some v8) (e9 : cs[9]? = some v9) : w.cell? ⟨b, 0, none⟩ = some v0 ∧ w.cell? ⟨b, 1, none⟩ = some v1 ∧ w.cell? ⟨b, 2, none⟩ = some v2 ∧ w.cell? ⟨b, 3, none⟩ = some v3 ∧ w.cell? ⟨b, 4, none⟩ = some v4 ∧ w.cell? ⟨b, 5, none⟩ = some v5 ∧ w.cell? ⟨b, 6, none⟩ = some v6 ∧ w.cell? ⟨b, 7, none⟩ = some v7 ∧ w.cell? ⟨b, 8, none⟩ = some v8 ∧ w.cell? ⟨b, 9, none⟩ = some v9 := ⟨h.cell e0, h.cell e1, h.cell e2, h.cell e3, h.cell e4, h.cell e5, h.cell e6, h.cell e7, h.cell e8, h.cell e9⟩
theorem Ob.k12 (h : Ob w b t cs) {v0 v1 v2 v3 v4 v5 v6 v7 v8 v9 v10 v11 : Value} (e0 : cs[0]? = some v0) (e1 : cs[1]? = some v1) (e2 : cs[2]? = some v2) (e3 : cs[3]? = some v3) (e4 : cs[4]? = some v4) (e5 : cs[5]? = some v5) (e6 : cs[6]? = some v6) (e7 : cs[7]? = some v7) (e8 : cs[8]? = some v8) (e9 : cs[9]? = some v9) (e10 : cs[10]? = some v10) (e11 : cs[11]? = some v11) : w.cell? ⟨b, 0, none⟩ = some v0 ∧ w.cell? ⟨b, 1, none⟩ = some v1 ∧ w.cell? ⟨b, 2, none⟩ = some v2 ∧ w.cell? ⟨b, 3, none⟩ = some v3 ∧ w.cell? ⟨b, 4, none⟩ = some v4 ∧ w.cell? ⟨b, 5, none⟩ = some v5 ∧ w.cell? ⟨b, 6, none⟩ = some v6 ∧ w.cell? ⟨b, 7, none⟩ = some v7 ∧ w.cell? ⟨b, 8, none⟩ = some v8 ∧ w.cell? ⟨b, 9, none⟩ = some v9 ∧ w.cell? ⟨b, 10, none⟩ = some v10 ∧ w.cell? ⟨b, 11, none⟩ = some v11 := ⟨h.cell e0, h.cell e1, h.cell e2, h.cell e3, h.cell e4, h.cell e5, h.cell e6, h.cell e7, h.cell e8, h.cell e9, h.cell e10, h.cell e11⟩
theorem Ob.k16 (h : Ob w b t cs) {v0 v1 v2 v3 v4 v5 v6 v7 v8 v9 v10 v11 v12 v13 v14 v15 : Value} (e0 : cs[0]? = some v0) (e1 : cs[1]? = some v1) (e2 : cs[2]? = some v2) (e3 : cs[3]? = some v3) (e4 : cs[4]? = some v4) (e5 : cs[5]? = some v5) (e6 : cs[6]? = some v6) (e7 : cs[7]? = some v7) (e8 : cs[8]? = some v8) (e9 : cs[9]? = some v9) (e10 : cs[10]? = some v10) (e11 : cs[11]? = some v11) (e12 : cs[12]? = some v12) (e13 : cs[13]? = some v13) (e14 : cs[14]? = some v14) (e15 : cs[15]? = some v15) : w.cell? ⟨b, 0, none⟩ = some v0 ∧ w.cell? ⟨b, 1, none⟩ = some v1 ∧ w.cell? ⟨b, 2, none⟩ = some v2 ∧ w.cell? ⟨b, 3, none⟩ = some v3 ∧ w.cell? ⟨b, 4, none⟩ = some v4 ∧ w.cell? ⟨b, 5, none⟩ = some v5 ∧ w.cell? ⟨b, 6, none⟩ = some v6 ∧ w.cell? ⟨b, 7, none⟩ = some v7 ∧ w.cell? ⟨b, 8, none⟩ = some v8 ∧ w.cell? ⟨b, 9, none⟩ = some v9 ∧ w.cell? ⟨b, 10, none⟩ = some v10 ∧ w.cell? ⟨b, 11, none⟩ = some v11 ∧ w.cell? ⟨b, 12, none⟩ = some v12 ∧ w.cell? ⟨b, 13, none⟩ = some v13 ∧ w.cell? ⟨b, 14, none⟩ = some v14 ∧ w.cell? ⟨b, 15, none⟩ = some v15 := ⟨h.cell e0, h.cell e1, h.cell e2, h.cell e3, h.cell e4, h.cell e5, h.cell e6, h.cell e7, h.cell e8, h.cell e9, h.cell e10, h.cell e11, h.cell e12, h.cell e13, h.cell e14, h.cell e15⟩
theorem Ob.frozen (h : Ob w b t cs) (j : Nat) : w.frozen? ⟨b, j, none⟩ = false := by simp [World.frozen?, show w.heap[b]? = _ from h]
theorem Ob.new (w : World) (t : TypeId) (cs : Array Value) : Ob (w.alloc (.cells cs t)) w.heap.size t cs := heap_alloc_new w _
theorem Ob.kept (h : Ob w b t cs) (hg : w.grownBy w' row) (hne : some b ≠ row) : Ob w' b t cs := (hg.block b h.lt hne).trans h
theorem Ob.alloc (h : Ob w b t cs) (o : Obj) : Ob (w.alloc o) b t cs := h.kept (World.grownBy_alloc w o none) (by simp)
theorem Ob.below (h : Ob w b t cs) (hb : Below B w w') (hB : b < B) : Ob w' b t cs := (hb.block b hB).trans h
theorem Ob.same (h : Ob w b t cs) (hb : Below w.heap.size w w') : Ob w' b t cs := h.below hb h.lt
theorem Ob.set (h : Ob w b t cs) (j : Nat) (v : Value) : Ob (w.setCell ⟨b, j, none⟩ v) b t (cs.setIfInBounds j v) := by
 obtain ⟨hlt, hk⟩ := Array.getElem?_eq_some_iff.1 h; show (w.heap.modify b _)[b]? = _; rw [Array.getElem?_eq_getElem (by rw [Array.size_modify]; exact hlt), Array.getElem_modify_self, hk]; simp
theorem grownBy_set (w : World) (b j : Nat) (v : Value) : w.grownBy (w.setCell ⟨b, j, none⟩ v) (some b) :=
 ⟨rfl, rfl, rfl, (KeepsWalks.setCell w _ v).size, fun k _ hk => Below.heap_setCell _ _ _ k (fun e => hk (by rw [e]))⟩
theorem Ob.other (h : Ob w b t cs) (hne : b ≠ b') (j : Nat) (v : Value) : Ob (w.setCell ⟨b', j, none⟩ v) b t cs := h.kept (grownBy_set w b' j v) (fun e => hne (by cases e; rfl))
end
structure Kept (Fr : Nat → Prop) (w w' : World) : Prop where
 os : w'.os = w.os
 tape : w'.tape = w.tape
 output : w'.output = w.output
 size : w.heap.size ≤ w'.heap.size
 block : ∀ k, Fr k → w'.heap[k]? = w.heap[k]?
section
variable {Fr Fr' : Nat → Prop} {a b c w w' : World} {B : Nat} {row : Option Nat}
theorem Kept.refl (Fr : Nat → Prop) (w : World) : Kept Fr w w := ⟨rfl, rfl, rfl, Nat.le_refl _, fun _ _ => rfl⟩
theorem Kept.trans (h : Kept Fr a b) (k : Kept Fr b c) : Kept Fr a c :=
 ⟨k.os.trans h.os, k.tape.trans h.tape, k.output.trans h.output, Nat.le_trans h.size k.size, fun i hi => (k.block i hi).trans (h.block i hi)⟩
theorem Kept.mono (h : Kept Fr a b) (hF : ∀ i, Fr' i → Fr i) : Kept Fr' a b := ⟨h.os, h.tape, h.output, h.size, fun i hi => h.block i (hF i hi)⟩
theorem Kept.of_below (h : Below B w w') (hF : ∀ i, Fr i → i < B) : Kept Fr w w' := ⟨h.os, h.tape, h.output, h.size, fun i hi => h.block i (hF i hi)⟩
theorem Kept.of_grown (h : w.grownBy w' row) (hF : ∀ i, Fr i → i < w.heap.size ∧ some i ≠ row) : Kept Fr w w' := ⟨h.os, h.tape, h.output, h.size, fun i hi => h.block i (hF i hi).1 (hF i hi).2⟩
theorem Kept.below (h : Kept Fr w w') (hF : ∀ i, i < B → Fr i) : Below B w w' := ⟨h.os, h.tape, h.output, h.size, fun i hi => h.block i (hF i hi)⟩
theorem Kept.ob {b : Nat} {t : TypeId} {cs : Array Value} (h : Kept Fr w w') (ho : Ob w b t cs) (hF : Fr b) : Ob w' b t cs := (h.block b hF).trans ho
theorem Kept.sl {lo B size n : Nat} {v : Value} {xs : List Value} (h : Kept Fr w w') (hs : Sl w lo B size v n xs) (hF : ∀ i, lo ≤ i → i < B → Fr i) : Sl w' lo B size v n xs :=
 hs.keep fun b _ h1 h2 => World.cell?_of_block (h.block b (hF b h1 h2))
end
end
namespace Se
section
open Go.RowKit Go.Maps
open Ce
section
variable {w w' : World} {b b' o n : Nat} {cs : List Value}
theorem cell_of_block (h : w'.heap[b]? = w.heap[b]?) (j : Nat) : w'.cell? ⟨b, j, none⟩ = w.cell? ⟨b, j, none⟩ := by unfold World.cell?; rw [h]
theorem frozen_of_block (h : w'.heap[b]? = w.heap[b]?) (j : Nat) : w'.frozen? ⟨b, j, none⟩ = w.frozen? ⟨b, j, none⟩ := by unfold World.frozen?; rw [h]
theorem range_of_block (h : w'.heap[b]? = w.heap[b]?) (hr : w.rangeAt b o cs) : w'.rangeAt b o cs := fun j v hv => by rw [cell_of_block h]; exact hr j v hv
theorem there_of_block (h : w'.heap[b]? = w.heap[b]?) (hr : w.there b o n) : w'.there b o n := fun j hj => by rw [cell_of_block h, frozen_of_block h]; exact hr j hj
theorem there_part {k m : Nat} (h : w.there b 0 n) (hk : k + m ≤ n) : w.there b k m := fun j hj => by
 have := h (k + j) (by omega); simpa using this
theorem grownBy_cells : ∀ (vs : List Value) (w : World) (o : Nat), w.grownBy (w.setCells b o vs) (some b)
 | [], w, _ => ⟨rfl, rfl, rfl, Nat.le_refl _, fun _ _ _ => rfl⟩
 | v :: r, w, o => by
   rw [World.setCells]; exact (grownBy_set w b o v).andThen (grownBy_cells r _ (o + 1)) (fun j e => .inr e)
theorem size_cells : ∀ (vs : List Value) (w : World) (o : Nat), (w.setCells b o vs).heap.size = w.heap.size
 | [], w, _ => rfl
 | v :: r, w, o => by
   rw [World.setCells, size_cells r]; simp
end
structure SureAt (w : World) (sb : Nat) (bs : List Blk) : Prop where
 at_ : ∀ i (h : i < bs.length), w.rangeAt sb (i * 64) (bytesV bs[i])
 there : w.there sb 0 (bs.length * 64)
 lt : sb < w.heap.size
theorem SureAt.kept {w w' : World} {sb : Nat} {bs : List Blk} (h : SureAt w sb bs) (he : w'.heap[sb]? = w.heap[sb]?) (hs : w.heap.size ≤ w'.heap.size) : SureAt w' sb bs :=
 ⟨fun i hi => range_of_block he (h.at_ i hi), there_of_block he h.there, Nat.lt_of_lt_of_le h.lt hs⟩
theorem SureAt.set {w : World} {sb : Nat} {bs : List Blk} (h : SureAt w sb bs) (hbs : ∀ c ∈ bs, c.length = 64) {i : Nat} (hi : i < bs.length) {b : Blk} (hb : b.length = 64) : SureAt (w.setCells sb (i * 64) (bytesV b)) sb (bs.set i b) := by
 have hl : (bytesV b).length = 64 := by rw [bytesV_length]; exact hb
 refine ⟨fun j hj => ?_, by rw [List.length_set]; exact World.there_setCells h.there _ _ _, by rw [size_cells]; exact h.lt⟩; rw [List.length_set] at hj
 by_cases e : i = j
 · subst e
   rw [List.getElem_set_self]; exact World.rangeAt_setCells_same _ _ _ _ (there_part h.there (by omega))
 · rw [List.getElem_set_ne e]
   have hl2 : (bytesV bs[j]).length = 64 := by rw [bytesV_length]; exact hbs _ (List.getElem_mem hj)
   exact World.rangeAt_setCells_apart (h.at_ j hj) _ _ _ (.inr (by omega))
theorem SureAt.made {w : World} {g n base cap : Nat} {e : TypeId} {z : Array Value} (hz : z = Array.replicate 64 (.int .u8 0)) (h : w.ownsRow base e 64 (.slice (some ⟨g, 0, none⟩) n cap) n (madeCells z (n * 64)).toList) (hn : 0 < n) : SureAt w g (List.replicate n (List.replicate 64 0)) := by
 obtain ⟨g', cap', e', h1, h2⟩ := h.form hn
 cases e'
 have hc : ∀ k, k < n * 64 → w.cell? ⟨g, k, none⟩ = some (.int .u8 0) := fun k hk => by
   rw [h.cellAt k hk]; unfold madeCells; rw [Array.getElem?_toList, Array.getElem?_map, Array.getElem?_range]; subst hz; have : k % 64 < 64 := Nat.mod_lt _ (by omega); simp [hk, this]
 refine ⟨fun i hi k v hv => ?_, fun k hk => ?_, h2⟩
 · rw [List.length_replicate] at hi
   rw [List.getElem_replicate] at hv
   have hk : k < 64 := by
     have := (List.getElem?_eq_some_iff.1 hv).1; simpa [bytesV] using this
   rw [hc _ (by omega)]; unfold bytesV at hv; rw [List.map_replicate, List.getElem?_replicate] at hv; rw [if_pos hk] at hv; simpa using hv
 · rw [List.length_replicate] at hk
   rw [Nat.zero_add, hc k hk]; exact ⟨rfl, h.frozenAt k⟩
end
section
open Go.RowKit Go.Maps
theorem keyedI : Keyed Tryz.prog 3 := int_keyed Tryz.underlying3
theorem keyI {k : Int} (h0 : -9223372036854775808 ≤ k) (h1 : k ≤ 9223372036854775807) : keyOf Tryz.prog 3 (vI k) = some (intK.lit k) :=
 keyOf_int_mk Tryz.underlying3 (WalkArith.wf_i64 (by omega))
theorem wpList_look_ok_i {κ : Type} [DecidableEq κ] {K : KeyK κ} {P : Program} {w : World} {b : Nat} {m : List (κ × Value)} {ops : Array Oper} {rest : List Oper} {o : Oper} {a : Act} {Q : Exit → Act → World → Prop} (hg : o.guard = none) (x y : Operand) (tm : TypeId) (hop : o.op = Op.lookup tm x y true) (t e : TypeId) (KK : Keyed P t) (ht : P.underlying tm = some (.map t e))
   (hm : a.eval x = .map (some b)) (h : GMap K w P t b m) {z : Value} (hz : (zeroValue e).run P w = .ok z w) (key : Value) (k : κ) (hx : a.eval y = key) (hkey : keyOf P t key = some (K.lit k))
   (r : Value) (c : Bool) (hr : (mGet m k).getD z = r) (hc : (mGet m k).isSome = c) (hK : wpList P ops Q rest (a.put o.dst (.tuple #[r, .bool c])) w) :
   wpList P ops Q (o :: rest) a w := by
 refine wpList_plain hg fun K' hK' => ?_
 have hrun := h.look_ok KK ht hz hkey; rw [hr, hc] at hrun; unfold Oper.wp; simp [execOp, hop, hm, hx, hrun, Result.andThen]; exact hK' _ _ hK
def leftI (m : List (Int × Value)) (S : List Int) (z : Lit) : Bool := Maps.has (DataW.map (mEs intK m)) z && S.all fun k => !z.sameKey (intK.lit k)
theorem leftI_nil (m : List (Int × Value)) : leftI m [] = Maps.has (DataW.map (mEs intK m)) := by
 funext z
 simp [leftI]
theorem leftI_snoc (m : List (Int × Value)) (S : List Int) (k : Int) : (fun z => leftI m S z && !z.sameKey (intK.lit k)) = leftI m (S ++ [k]) := by
 funext z
 simp only [leftI, List.all_append, List.all_cons, List.all_nil, Bool.and_true, Bool.and_assoc]
theorem leftI_lit (m : List (Int × Value)) (S : List Int) (k : Int) : leftI m S (intK.lit k) = ((mGet m k).isSome && !S.contains k) := by
 unfold leftI; rw [mEs_has]
 congr 1
 rw [Bool.eq_iff_iff]; simp only [List.all_eq_true, Bool.not_eq_true', intK.same, decide_eq_false_iff_not, List.contains_eq_mem]
 constructor
 · intro h hk
   exact h k hk rfl
 · intro h x hx e
   subst e; exact h hx
def Rng (P : Program) (t : TypeId) (w : World) (b r : Nat) (m : List (Int × Value)) (S : List Int) (cnt : Nat) : Prop := w.ranges (H := Value) P t hold b r m.length (.map (mEs intK m)) (leftI m S) cnt
section
variable {P : Program} {t : TypeId} {w w' : World} {b r : Nat} {m : List (Int × Value)} {S : List Int} {cnt : Nat} {ops : Array Oper} {rest : List Oper} {o : Oper} {a : Act} {Q : Exit → Act → World → Prop}
theorem Rng.kept {row : Option Nat} (h : Rng P t w b r m S cnt) (hg : w.grownBy w' row) (hb : some b ≠ row) (hr : some r ≠ row) : Rng P t w' b r m S cnt := World.ranges.kept h hg hb hr
theorem Rng.map (h : Rng P t w b r m S cnt) : GMap intK w P t b m := World.ranges.owns h
theorem Rng.lt (h : Rng P t w b r m S cnt) : r < w.heap.size := World.ranges.lt h
theorem wpList_range_g (hg : o.guard = none) (x : Operand) (tm : TypeId) (hop : o.op = Op.range tm x) (e : TypeId) (KK : Keyed P t) (ht : P.underlying tm = some (.map t e)) (hm : a.eval x = .map (some b)) (h : GMap intK w P t b m)
   (hK : ∀ w', Rng P t w' b w.heap.size m [] (Maps.size (DataW.map (mEs intK m))) → w.grownBy w' none → w'.heap.size = w.heap.size + 1 → wpList P ops Q rest (a.put o.dst (.pointer (some ⟨w.heap.size, 0, none⟩))) w') :
   wpList P ops Q (o :: rest) a w :=
 wpList_range_own (H := Value) w hg x tm hop t e KK ht hold b m.length (.map (mEs intK m)) hm h fun w' h1 h2 h3 => hK w' (by unfold Rng; rw [leftI_nil]; exact h1) h2 h3
theorem wpList_next_g (hg : o.guard = none) (it : Operand) (hop : o.op = Op.next it false) (KK : Keyed P t) (hk : P.underlying t = some (.int .i64)) (hit : a.eval it = .pointer (some ⟨r, 0, none⟩)) (h : Rng P t w b r m S cnt)
   (hDone : (∀ k, (mGet m k).isSome = true → k ∈ S) → wpList P ops Q rest (a.put o.dst (.tuple #[.bool false])) w)
   (hMore : ∀ (k : Int) (v : Value) (w' : World) (cnt' : Nat), mGet m k = some v → k ∉ S → Rng P t w' b r m (S ++ [k]) cnt' → cnt' < cnt → w.grownBy w' (some r) → w'.heap.size = w.heap.size →
     (Instr.entry (.pointer (some ⟨r, 0, none⟩))).run P w' = .ok (.tuple #[vI k, v]) w' → wpList P ops Q rest (a.put o.dst (.tuple #[.bool true, vI k, v])) w') :
   wpList P ops Q (o :: rest) a w := by
 refine wpList_next_ranges (H := Value) (α := Int) (β := Value) w hg it hop t KK hold (Value.int .i64) id (fun key kl hkey => by obtain ⟨x, rfl, _⟩ := Maps.keyOf_int_inv hk hkey; exact ⟨x, rfl⟩) (fun v y _ => ⟨v, rfl⟩) b r m.length _ (leftI m S) cnt hit h (fun _ hl => hDone fun k hs => ?_) (fun x c kl y w' cnt' hkey hlk hv hat hrg hlt hgr hsz hen => ?_)
 · have h1 := hl (intK.lit k)
   rw [leftI_lit, hs] at h1; simpa using h1
 · obtain ⟨x', ex, rfl, -⟩ := Maps.keyOf_int_inv hk hkey
   cases ex
   change leftI m S (intK.lit x) = true at hlk; rw [leftI_lit] at hlk; simp only [Bool.and_eq_true, Bool.not_eq_true', List.contains_eq_mem, decide_eq_false_iff_not] at hlk; obtain ⟨v0, hv0⟩ := Option.isSome_iff_exists.1 hlk.1
   have e : v0 = c := by
     have h1 := hat (.held undef); change (DataW.map (mEs intK m)).atKey (intK.lit x) (.held undef) = y.1 at h1; rw [mEs_get, hv0] at h1; simp only [hold, id, Option.some.injEq] at hv; rw [← hv] at h1; simpa using h1
   subst e; refine hMore x v0 w' cnt' hv0 hlk.2 ?_ hlt hgr hsz hen; unfold Rng; rw [← leftI_snoc]; exact hrg
end
end
end Se
section
open Go.RowKit Go.Maps Go.ChangeMaps
theorem GMap.clear {κ : Type} [DecidableEq κ] {K : KeyK κ} {w : World} {P : Program} {t : TypeId} {b : Nat} {m : List (κ × Value)} {tm e : TypeId} (h : GMap K w P t b m) (ht : P.underlying tm = some (.map t e)) (ty : TypeId) :
   ∃ w', (Builtin.clear_ #[tm] ty #[.map (some b)]).run P w = .ok (.tuple #[]) w' ∧ GMap K w' P t b [] ∧ w.grownBy w' (some b) := by
 obtain ⟨es, clock, hb, F, hs, hD⟩ := h; refine ⟨setBlock w b (.map #[] clock), ?_, ⟨#[], clock, heap_setBlock_same hb _, ⟨by simp, MapKept.stamped_empty clock, by simp⟩, by simp, by simp [mEs]⟩, World.mapTurned.grown ⟨es, clock, #[], clock, hb, rfl⟩⟩; simp [Builtin.clear_, run_underlying ht, MapKept.run_getObj_map hb, MapKept.run_setObj_map _ hb, Result.andThen, setBlock]
end
namespace Se
section
open Go.RowKit Go.Maps
open Ce
def devC (D : Dv) (sb mb : Nat) : Array Value := #[.slice (some ⟨sb, 0, none⟩) D.sure.length D.sure.length, .map (some mb), .bool D.stops, vI D.left, vI D.wr, vI D.fl]
structure DvAt (w : World) (base d sb mb : Nat) (D : Dv) : Prop where
 ob : Ob w d 114 (devC D sb mb)
 sure : SureAt w sb D.sure
 map : GMap intK w Tryz.prog 3 mb (bm D.dm)
 ok : OkD D
 ne : d ≠ sb ∧ d ≠ mb ∧ sb ≠ mb
 lo : base ≤ d ∧ base ≤ sb ∧ base ≤ mb
 len : 0 < D.sure.length ∧ D.sure.length ≤ 16384
theorem DvAt.kept {w w' : World} {base d sb mb : Nat} {D : Dv} {Fr : Nat → Prop} (h : DvAt w base d sb mb D) (hk : Kept Fr w w') (hd : Fr d) (hs : Fr sb) (hm : Fr mb) : DvAt w' base d sb mb D := by
 refine ⟨hk.ob h.ob hd, h.sure.kept (hk.block sb hs) hk.size, ?_, h.ok, h.ne, h.lo, h.len⟩; obtain ⟨es, clock, h1, F, h2, e⟩ := h.map; exact ⟨es, clock, (hk.block mb hm).trans h1, F, h2, e⟩
theorem DvAt.same {w w' : World} {base d sb mb : Nat} {D : Dv} (h : DvAt w base d sb mb D) (hb : Below w.heap.size w w') : DvAt w' base d sb mb D :=
 h.kept (Kept.of_below hb (Fr := fun i => i < w.heap.size) fun _ hi => hi) h.ob.lt h.sure.lt h.map.lt
theorem blk_info : (Tryz.prog.info? 183).map (fun i => (i.zero, i.size, i.bytes)) = some (some (.agg (Array.replicate 64 (.int .u8 0))), 64, 64) := by kernel_rfl
theorem new_calls (n : Nat) (w : World) (h1 : 1 ≤ n) (h2 : n ≤ 16384) :
   Calls Tryz.prog 37 #[vI n] w fun e w' => (∃ d sb mb, e = .returned (.tuple #[.pointer (some ⟨d, 0, none⟩), vO]) ∧ DvAt w' w.heap.size d sb mb (newD n)) ∧ Below w.heap.size w w' := by
 have hmm := @run_makeMap Tryz.prog; obtain ⟨i0, hi0, hz0, hz1, hz2⟩ := inf3 blk_info; have hd : decide ((n : Int) < 1) = false := by simp; omega
 have hd2 : decide ((n : Int) > 16384) = false := by simp; omega
 go_enter Tryz.func37, Tryz.ntmps37
 obtain ⟨w1, hmk, hv1, hg1⟩ := run_make_full (P := Tryz.prog) w w.heap.size 106 183 i0 _ 64 Tryz.underlying106 hi0 hz0 hz1 .i64 .i64 n (by rw [hz2]; omega) (by unfold maxLen; omega) (Nat.le_refl _); have hsl := SureAt.made (by rfl) hv1 h1; have hs1 := hg1.size; clear hz0 hz1 hz2; have hb1 := (Below.refl w.heap.size w).grown hg1 (Nat.le_refl _) (fun k e => by cases e); go_wp2; go_ret2; have ha1 := hb1.alloc hb1.size (.map #[] 0); have ha2 := ha1.alloc ha1.size (.cells (devC (newD n) w.heap.size w1.heap.size) 114); have hnl : (newD n).sure.length = n := by simp [newD]
 have hC : devC (newD n) w.heap.size w1.heap.size = #[.slice (some ⟨w.heap.size, 0, none⟩) n n, .map (some w1.heap.size), .bool false, vO, vO, vO] := by unfold devC; rw [hnl]; rfl
 rw [hC] at ha2; refine ⟨⟨w1.heap.size + 1, w.heap.size, w1.heap.size, rfl, ?_⟩, ha2⟩; have hob := Ob.new (w1.alloc (.map #[] 0)) 114 (devC (newD n) w.heap.size w1.heap.size); rw [World.size_alloc, hC] at hob; have hsb := hsl.lt; refine ⟨by rw [hC]; exact hob, hsl.kept ?_ (by simp; omega), ?_, OkD.new n, by omega, by omega, by rw [hnl]; omega⟩
 · rw [heap_alloc_old _ _ (by simp; omega), heap_alloc_old _ _ hsb]
 · exact (GMap.made (K := intK) w1 Tryz.prog 3).kept (World.grownBy_alloc _ _ none) (by simp)
end
section
open Go.RowKit Go.Maps
open Ce
theorem Ob.dev {w : World} {d sb mb : Nat} {D : Dv} (h : Ob w d 114 (devC D sb mb)) :
   w.cell? ⟨d, 0, none⟩ = some (.slice (some ⟨sb, 0, none⟩) D.sure.length D.sure.length) ∧ w.cell? ⟨d, 1, none⟩ = some (.map (some mb)) ∧ w.cell? ⟨d, 2, none⟩ = some (.bool D.stops) ∧ w.cell? ⟨d, 3, none⟩ = some (vI D.left) ∧ w.cell? ⟨d, 4, none⟩ = some (vI D.wr) ∧ w.cell? ⟨d, 5, none⟩ = some (vI D.fl) :=
 ⟨h.k 0 rfl, h.k 1 rfl, h.k 2 rfl, h.k 3 rfl, h.k 4 rfl, h.k 5 rfl⟩
theorem made_calls (d mb : Nat) (w : World) (h : w.cell? ⟨d, 1, none⟩ = some (.map (some mb))) :
   Calls Tryz.prog 44 #[.pointer (some ⟨d, 0, none⟩)] w fun e w' => e = .returned (.bool true) ∧ w = w' := by
 have hn := fun (w : World) (r : Option Nat) => run_neq_map_nil (P := Tryz.prog) w 107 _ _ r Tryz.underlying107
 go_enter Tryz.func44, Tryz.ntmps44
 go_wp2; go_ret; exact ⟨rfl, rfl⟩
section
variable {w : World} {base d sb mb : Nat} {D : Dv}
theorem is_calls (h : DvAt w base d sb mb D) (i : Int) :
   Calls Tryz.prog 214 #[.pointer (some ⟨d, 0, none⟩), vI i] w fun e w' => e = .returned (.bool (decide (0 ≤ i ∧ i < D.sure.length))) ∧ w = w' := by
 obtain ⟨y0, -⟩ := Ob.dev h.ob; generalize D.sure.length = n at *; clear h
 go_enter Tryz.func214, Tryz.ntmps214
 by_cases h0 : 0 ≤ i
 · have hd : decide (i ≥ 0) = true := by simpa using h0
   have he : decide (i < (n : Int)) = decide (0 ≤ i ∧ i < (n : Int)) := by simp [h0]
   rw [← he]; clear he h0; go_wp2; go_ret; exact ⟨rfl, rfl⟩
 · have hd : decide (i ≥ 0) = false := by simpa using h0
   have he : decide (0 ≤ i ∧ i < (n : Int)) = false := by simp [h0]
   rw [he]; clear he h0; go_wp2; go_ret; exact ⟨rfl, rfl⟩
theorem len_calls (h : DvAt w base d sb mb D) :
   Calls Tryz.prog 104 #[.pointer (some ⟨d, 0, none⟩)] w fun e w' => e = .returned (vI D.sure.length) ∧ w = w' := by
 obtain ⟨y0, y1, -⟩ := Ob.dev h.ob; have cM := hdd (made_calls d mb w y1); generalize D.sure.length = n at *; clear h
 go_enter Tryz.func104, Tryz.ntmps104
 go_wp2_with fail; refine cM.out.mono ?_; rintro e W ⟨rfl, rfl⟩; go_wp2; go_ret; exact ⟨rfl, rfl⟩
theorem off_calls (h : DvAt w base d sb mb D) :
   Calls Tryz.prog 215 #[.pointer (some ⟨d, 0, none⟩)] w fun e w' => e = .returned (.bool (offD D)) ∧ w = w' := by
 obtain ⟨y0, y1, y2, y3, -⟩ := Ob.dev h.ob; have cM := hdd (made_calls d mb w y1); have HO := hdd (show offD D = (D.stops && decide (D.left ≤ 0)) from rfl); generalize offD D = O at *; generalize D.stops = S at *; generalize D.left = L at *; clear h
 go_enter Tryz.func215, Tryz.ntmps215
 go_wp2_with fail; refine cM.out.mono ?_; rintro e W ⟨rfl, rfl⟩
 cases S with
 | true =>
   go_wp2; go_ret; exact ⟨by rw [HO.out]; rfl, rfl⟩
 | false =>
   go_wp2; go_ret; exact ⟨by rw [HO.out]; rfl, rfl⟩
end
end
section
open Go.RowKit Go.Maps
open Ce
section
variable {w w' : World} {base d sb mb : Nat} {D D' : Dv}
theorem DvAt.own (h : DvAt w base d sb mb D) (hg : w.grownBy w' (some d)) (ho : Ob w' d 114 (devC D' sb mb)) (hs : D'.sure = D.sure) (hm : D'.dm = D.dm) (hok : OkD D') : DvAt w' base d sb mb D' := by
 refine ⟨ho, ?_, ?_, hok, h.ne, h.lo, by rw [hs]; exact h.len⟩
 · rw [hs]
   exact h.sure.kept (hg.block sb h.sure.lt (fun e => h.ne.1 (Option.some.inj e).symm)) hg.size
 · rw [hm]
   exact h.map.kept hg (fun e => h.ne.2.1 (Option.some.inj e).symm)
def Dev (d sb mb : Nat) (w w' : World) : Prop := Kept (fun i => i < w.heap.size ∧ i ≠ d ∧ i ≠ sb ∧ i ≠ mb) w w'
theorem Dev.of_own (hg : w.grownBy w' (some d)) : Dev d sb mb w w' := Kept.of_grown hg fun _ hi => ⟨hi.1, fun e => hi.2.1 (Option.some.inj e)⟩
theorem spend_off (h : DvAt w base d sb mb D) (ho : offD D = true) :
   Calls Tryz.prog 217 #[.pointer (some ⟨d, 0, none⟩)] w fun e w' => e = .returned (.bool false) ∧ w = w' := by
 have cO := off_calls h; rw [ho] at cO; have CO := hdd cO; clear cO h
 go_enter Tryz.func217, Tryz.ntmps217
 go_wp2_with fail; refine CO.out.mono ?_; rintro e W ⟨rfl, rfl⟩; go_wp2; go_ret; exact ⟨rfl, rfl⟩
theorem OkD.spend (h : OkD D) (ho : offD D = false) : OkD (spendD D) :=
 ⟨by rw [spendD_sure]; exact h.sure, by rw [spendD_sure, spendD_dm]; exact h.dm, spendD_left h ho, by rw [spendD_wr]; exact h.wr, by rw [spendD_fl]; exact h.fl⟩
theorem spend_calls (h : DvAt w base d sb mb D) (ho : offD D = false) :
   Calls Tryz.prog 217 #[.pointer (some ⟨d, 0, none⟩)] w fun e w' => e = .returned (.bool true) ∧ DvAt w' base d sb mb (spendD D) ∧ w.grownBy w' (some d) := by
 have cO := off_calls h; rw [ho] at cO; have CO := hdd cO; obtain ⟨y0, y1, y2, y3, -⟩ := Ob.dev h.ob; have hl := h.ok.left; have hz := h.ob.frozen 3
 cases hs : D.stops with
 | false =>
   have e : spendD D = D := by unfold spendD; rw [hs]; rfl
   have H := hdd h; rw [hs] at y2; rw [e]; clear cO h hs ho e
   go_enter Tryz.func217, Tryz.ntmps217
   go_wp2_with fail; refine CO.out.mono ?_; rintro e W ⟨rfl, rfl⟩; go_wp2; go_ret; exact ⟨rfl, H.out, ⟨rfl, rfl, rfl, Nat.le_refl _, fun _ _ _ => rfl⟩⟩
 | true =>
   have hlp : 0 < D.left := by unfold offD at ho; rw [hs] at ho; simpa using ho
   have hst := h.ob.set 3 (vI (D.left - 1)); have hg := grownBy_set w d 3 (vI (D.left - 1))
   have hC : (devC D sb mb).setIfInBounds 3 (vI (D.left - 1)) = devC (spendD D) sb mb := by
     unfold devC spendD; rw [hs]
     rfl
   rw [hC] at hst; have HD := hdd (h.own hg hst (spendD_sure D) (spendD_dm D) (h.ok.spend ho)); have HG := hdd hg; rw [hs] at y2; clear cO h hs ho hC hst hg; generalize D.left = L at *
   go_enter Tryz.func217, Tryz.ntmps217
   go_wp2_with fail; refine CO.out.mono ?_; rintro e W ⟨rfl, rfl⟩; go_wp2; go_ret; exact ⟨rfl, HD.out, HG.out⟩
theorem add_calls (j : Nat) (x : Int) (w : World) (hc : w.cell? ⟨d, j, none⟩ = some (vI x)) (hz : w.frozen? ⟨d, j, none⟩ = false) :
   Calls Tryz.prog 218 #[.pointer (some ⟨d, j, none⟩), vI 1] w fun e w' => e = .returned (vI (wrap64 (x + 1))) ∧ w' = w.setCell ⟨d, j, none⟩ (vI (wrap64 (x + 1))) := by
 have hadd := run_call_add (P := Tryz.prog) Tryz.func279 (by kernel_rfl) (by kernel_rfl) (by kernel_rfl) .i64 (by kernel_rfl) (y := 1) (s := wrap64 (x + 1)) hc hz (by simp [go_sem, wrap64, IntKind.wrap_i64])
 go_enter Tryz.func218, Tryz.ntmps218
 go_wp2; go_ret; exact ⟨rfl, rfl⟩
end
end
end Se
end Go.Proofs.YtgcnhmjpfbbfcaaGreat
