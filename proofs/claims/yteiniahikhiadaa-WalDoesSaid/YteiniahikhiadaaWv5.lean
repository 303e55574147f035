/-
  laws for whole objects that are loaded and stored, and for look-ups with ok, at the walk's lists of operations.
  a whole object loaded by an operation that is bound to a test.
  sector: Dirty is a function.
  sector: the laws' Block.
  sector: lives.
  sector: what a call of a law makes of a device, plain.
  the law Does of logs.
  the law Does of logs, for any numbers; its row.
-/
import Derived.Test.YteiniahikhiadaaWv4
import Derived.Test.YteiniahikhiadaaWn2
import Derived.Test.YteiniahikhiadaaWn3
import Derived.Laws.AppendOwn
import Derived.Test.YteiniahikhiadaaWn4
import Derived.Outline
import Derived.Test.YteiniahikhiadaaWr1
import Derived.Deep.DeepCutAuto
import Derived.Deep.CutBlock
import Derived.Test.YteiniahikhiadaaWn7

set_option linter.unusedVariables false
set_option linter.unusedSimpArgs false
namespace Go.Proofs.Yteiniahikhiadaa
open Go.RowKit Go.Maps
section
variable {P : Program} {w : World} {ops : Array Oper} {rest : List Oper} {o : Oper} {a : Act} {Q : Exit → Act → World → Prop} {F : Fence} {N : Nat}
theorem store_ob_run {g : Nat} {t ty : TypeId} {cs0 cells : Array Value} (h : Ob w g t cs0) (hs : cells.size = cs0.size) (hi : (P.info? ty).map (·.size) = some cells.size) (h1 : cells.all (·.oneCell') = true) :
    ∃ w', (Instr.storeAt ty (.pointer (some ⟨g, 0, none⟩)) (.agg cells)).run P w = .ok () w' ∧ Ob w' g t cells ∧ w.grownBy w' (some g) :=
  ⟨_, run_storeAt_mid w g 0 ty cells (h.there (by omega)) hi h1, by have := h.all cells.toList (by simpa using hs); simpa using this, grownBy_segs _ _ _⟩
theorem load_ob_run {g : Nat} {t ty : TypeId} {cells : Array Value} {d : TypeDesc} (h : Ob w g t cells) (hu : P.underlying ty = some d) (hd : d.isRow = true) (hi : (P.info? ty).map (·.size) = some cells.size) :
    (Instr.loadAt ty (.pointer (some ⟨g, 0, none⟩))).run P w = .ok (.agg cells) w := by
  have := run_loadAt_mid (P := P) w g 0 ty cells.toList d (h.range (fun j v hv => by simpa using hv)) hu hd (by simpa using hi)
  simpa using this
theorem wpListIn_store_ob (hgd : o.guard = none) (ty : TypeId) (x y : Operand) (hop : o.op = .store ty x y) {g : Nat} {t : TypeId} {cs0 cells : Array Value} (hx : a.eval x = .pointer (some ⟨g, 0, none⟩)) (hy : a.eval y = .agg cells)
    (h : Ob w g t cs0) (hs : cells.size = cs0.size) (hi : (P.info? ty).map (·.size) = some cells.size) (h1 : cells.all (·.oneCell') = true)
    (hK : ∀ w', Ob w' g t cells → w.grownBy w' (some g) → wpListIn F N P ops Q rest (a.put o.dst undef) w') : wpListIn F N P ops Q (o :: rest) a w := by
  refine wpListIn_plain hgd fun K' hK' => ?_
  obtain ⟨w', hrun, r1, r2⟩ := store_ob_run (P := P) h hs hi h1
  unfold Oper.wpIn
  refine ⟨by simp [Oper.about, hop], ?_⟩
  rw [Oper.semAt_eq _ _ _ (by rw [hop]; intro c hc; cases hc)]
  simp [execOp, hop, hx, hy, hrun, Result.andThen]
  exact hK' _ _ (hK w' r1 r2)
theorem wpList_store_ob (hgd : o.guard = none) (ty : TypeId) (x y : Operand) (hop : o.op = .store ty x y) {g : Nat} {t : TypeId} {cs0 cells : Array Value} (hx : a.eval x = .pointer (some ⟨g, 0, none⟩)) (hy : a.eval y = .agg cells)
    (h : Ob w g t cs0) (hs : cells.size = cs0.size) (hi : (P.info? ty).map (·.size) = some cells.size) (h1 : cells.all (·.oneCell') = true)
    (hK : ∀ w', Ob w' g t cells → w.grownBy w' (some g) → wpList P ops Q rest (a.put o.dst undef) w') : wpList P ops Q (o :: rest) a w := by
  refine wpList_plain hgd fun K' hK' => ?_
  obtain ⟨w', hrun, r1, r2⟩ := store_ob_run (P := P) h hs hi h1
  unfold Oper.wp
  simp [execOp, hop, hx, hy, hrun, Result.andThen]
  exact hK' _ _ (hK w' r1 r2)
theorem wpListIn_load_ob (hgd : o.guard = none) (ty : TypeId) (x : Operand) (hop : o.op = .load ty x) {g : Nat} {t : TypeId} {cells : Array Value} (hx : a.eval x = .pointer (some ⟨g, 0, none⟩)) (d : TypeDesc)
    (h : Ob w g t cells) (hu : P.underlying ty = some d) (hd : d.isRow = true) (hi : (P.info? ty).map (·.size) = some cells.size)
    (hK : wpListIn F N P ops Q rest (a.put o.dst (.agg cells)) w) : wpListIn F N P ops Q (o :: rest) a w := by
  refine wpListIn_plain hgd fun K' hK' => ?_
  have hrun := load_ob_run (P := P) h hu hd hi
  unfold Oper.wpIn
  refine ⟨by simp [Oper.about, hop], ?_⟩
  rw [Oper.semAt_eq _ _ _ (by rw [hop]; intro c hc; cases hc)]
  simp [execOp, hop, hx, hrun, Result.andThen]
  exact hK' _ _ hK
theorem wpList_load_ob (hgd : o.guard = none) (ty : TypeId) (x : Operand) (hop : o.op = .load ty x) {g : Nat} {t : TypeId} {cells : Array Value} (hx : a.eval x = .pointer (some ⟨g, 0, none⟩)) (d : TypeDesc)
    (h : Ob w g t cells) (hu : P.underlying ty = some d) (hd : d.isRow = true) (hi : (P.info? ty).map (·.size) = some cells.size)
    (hK : wpList P ops Q rest (a.put o.dst (.agg cells)) w) : wpList P ops Q (o :: rest) a w := by
  refine wpList_plain hgd fun K' hK' => ?_
  have hrun := load_ob_run (P := P) h hu hd hi
  unfold Oper.wp
  simp [execOp, hop, hx, hrun, Result.andThen]
  exact hK' _ _ hK
end
section
variable {κ : Type} [DecidableEq κ] {K : KeyK κ} {P : Program} {w : World} {b : Nat} {m : List (κ × Value)} {ops : Array Oper} {rest : List Oper} {o : Oper} {a : Act} {Q : Exit → Act → World → Prop} {F : Fence} {N : Nat}
theorem wpListIn_look_ok_g (hg : o.guard = none) (x y : Operand) (tm : TypeId) (hop : o.op = Op.lookup tm x y true) (t e : TypeId) (KK : Keyed P t) (ht : P.underlying tm = some (.map t e))
    (hm : a.eval x = .map (some b)) (h : GMap K w P t b m) {z : Value} (hz : (zeroValue e).run P w = .ok z w) (key : Value) (k : κ) (hx : a.eval y = key) (hkey : keyOf P t key = some (K.lit k))
    (r : Value) (bb : Bool) (hr : (mGet m k).getD z = r) (hb : (mGet m k).isSome = bb) (hK : wpListIn F N P ops Q rest (a.put o.dst (.tuple #[r, .bool bb])) w) :
    wpListIn F N P ops Q (o :: rest) a w := by
  refine wpListIn_plain hg fun K' hK' => ?_
  have hrun := h.look_ok KK ht hz hkey
  rw [hr, hb] at hrun
  unfold Oper.wpIn
  refine ⟨by simp [Oper.about, hop], ?_⟩
  rw [Oper.semAt_eq _ _ _ (by rw [hop]; intro c hc; cases hc)]
  simp [execOp, hop, hm, hx, hrun, Result.andThen]
  exact hK' _ _ hK
theorem wpList_look_ok_g (hg : o.guard = none) (x y : Operand) (tm : TypeId) (hop : o.op = Op.lookup tm x y true) (t e : TypeId) (KK : Keyed P t) (ht : P.underlying tm = some (.map t e))
    (hm : a.eval x = .map (some b)) (h : GMap K w P t b m) {z : Value} (hz : (zeroValue e).run P w = .ok z w) (key : Value) (k : κ) (hx : a.eval y = key) (hkey : keyOf P t key = some (K.lit k))
    (r : Value) (bb : Bool) (hr : (mGet m k).getD z = r) (hb : (mGet m k).isSome = bb) (hK : wpList P ops Q rest (a.put o.dst (.tuple #[r, .bool bb])) w) :
    wpList P ops Q (o :: rest) a w := by
  refine wpList_plain hg fun K' hK' => ?_
  have hrun := h.look_ok KK ht hz hkey
  rw [hr, hb] at hrun
  unfold Oper.wp
  simp [execOp, hop, hm, hx, hrun, Result.andThen]
  exact hK' _ _ hK
end
end Go.Proofs.Yteiniahikhiadaa

namespace Go.Proofs.Yteiniahikhiadaa
open Go.RowKit
section
variable {P : Program} {w : World} {ops : Array Oper} {rest : List Oper} {o : Oper} {a : Act} {Q : Exit → Act → World → Prop}
theorem wpList_load_obg (hw : Pu.asks ops.toList o a.tmps.toList = true) (ty : TypeId) (x : Operand) (hop : o.op = .load ty x) {g : Nat} {t : TypeId} {cells : Array Value} (hx : a.eval x = .pointer (some ⟨g, 0, none⟩)) (d : TypeDesc)
    (h : Ob w g t cells) (hu : P.underlying ty = some d) (hd : d.isRow = true) (hi : (P.info? ty).map (·.size) = some cells.size)
    (hK : wpList P ops Q rest (a.put o.dst (.agg cells)) w) : wpList P ops Q (o :: rest) a w := by
  have hrun := load_ob_run (P := P) h hu hd hi
  unfold wpList
  rw [if_pos ((Pu.asks_eq _ _ _).trans hw)]
  left
  unfold Oper.wp
  simp [execOp, hop, hx, hrun, Result.andThen]
  exact hK
theorem wpList_load_midg (hw : Pu.asks ops.toList o a.tmps.toList = true) (ty : TypeId) (x : Operand) (hop : o.op = .load ty x) {b off : Nat} (hx : a.eval x = .pointer (some ⟨b, off, none⟩)) (cs : List Value) (d : TypeDesc)
    (hc : w.rangeAt b off cs) (hu : P.underlying ty = some d) (hd : d.isRow = true) (hi : (P.info? ty).map (·.size) = some cs.length)
    (hK : wpList P ops Q rest (a.put o.dst (.agg cs.toArray)) w) : wpList P ops Q (o :: rest) a w := by
  have hrun := run_loadAt_mid (P := P) w b off ty cs d hc hu hd hi
  unfold wpList
  rw [if_pos ((Pu.asks_eq _ _ _).trans hw)]
  left
  unfold Oper.wp
  simp [execOp, hop, hx, hrun, Result.andThen]
  exact hK
end
end Go.Proofs.Yteiniahikhiadaa

namespace Go.Proofs.Yteiniahikhiadaa
open Go.RowKit Go.Maps
namespace Se
theorem dirty_calls (p : Value) (hp : p.oneCell' = true) (w : World) :
    Calls Try.prog 47 #[p] w fun e w' => e = .returned (.func (.func 72) #[] #[.pointer (some ⟨w.heap.size, 0, none⟩)]) ∧ w' = w.alloc (.cells #[p] 24) := by
  have hmf : ∀ (fn : Fn) (first cap : Array Value) (w : World), (Instr.makeFunc fn first cap).run Try.prog w = .ok (.func fn first cap) w := fun _ _ _ _ => rfl
  go_enter Try.func47, Try.ntmps47
  go_wp2
  go_ret
  exact ⟨rfl, rfl⟩
end Se
end Go.Proofs.Yteiniahikhiadaa

namespace Go.Proofs.Yteiniahikhiadaa
open Go.RowKit Go.Maps
namespace Se
open Ce
theorem row_later {A B : World} {lo : Nat} {e : TypeId} {size n : Nat} {v : Value} {xs : List Value} (h : A.ownsRow lo e size v n xs) (hb : Below A.heap.size A B) : B.ownsRow lo e size v n xs := by
  refine ⟨h.1, h.2.elim Or.inl fun hx => .inr ?_⟩
  revert hx
  rintro ⟨g, cap, cur, rfl, hbg, hg, hnc⟩
  exact ⟨g, cap, cur, rfl, hbg, (hb.block g (Array.getElem?_eq_some_iff.1 hg).1).trans hg, hnc⟩
def blockL (b : UInt8) : List UInt8 := (List.range 64).map fun i => b + UInt8.ofNat (i % 7)
theorem byte_info : (Try.prog.info? 5).map (fun i => (i.zero, i.size, i.bytes)) = some (some (.int .u8 0), 1, 1) := by kernel_rfl
set_option maxRecDepth 100000 in
theorem block_calls (b : UInt8) (w : World) :
    Calls Try.prog 39 #[.int .u8 (b.toNat : Int)] w fun e w' => (∃ v, e = .returned v ∧ w'.ownsRow w.heap.size 5 1 v 64 (bytesV (blockL b))) ∧ Below w.heap.size w w' := by
  obtain ⟨i0, hi0, hz0⟩ := Option.map_eq_some_iff.1 byte_info
  simp only [Prod.mk.injEq] at hz0
  obtain ⟨hz0, hz1, hz2⟩ := hz0
  go_enter Try.func39, Try.ntmps39
  go_wp2
  go_loopw [3, 4] (fun v i wr => ∃ k : Nat, k ≤ 64 ∧ i = .int .i64 k ∧ wr.ownsRow w.heap.size 5 1 v k (bytesV ((List.range k).map fun i => b + UInt8.ofNat (i % 7))) ∧ Below w.heap.size w wr) (fun _ i _ => 64 - (intOf i).toNat)
  case atStart => exact ⟨0, by omega, rfl, World.ownsRow_nil _ _ _ _, Below.refl _ _⟩
  case round =>
    obtain ⟨k, hk, rfl, hv, hb⟩ := hrel
    by_cases hlt : k < 64
    · have hd : decide ((k : Int) < 64) = true := by simp; omega
      have hal := (Below.refl wr.heap.size wr).alloc (Nat.le_refl _) (.cells #[.int .u8 (((b.toNat : Int) + (k : Int) % 7) % 256)] 5)
      have hva := row_later hv hal
      have hob := Ob.new wr 5 #[.int .u8 (((b.toNat : Int) + (k : Int) % 7) % 256)]
      have hba := hb.trans (hal.mono hb.size)
      have hbyte : bytesV ((List.range (k + 1)).map fun i => b + UInt8.ofNat (i % 7)) = bytesV ((List.range k).map fun i => b + UInt8.ofNat (i % 7)) ++ [.int .u8 (((b.toNat : Int) + (k : Int) % 7) % 256)] := by
        rw [List.range_succ, List.map_append, bytesV_append]
        congr 1
        unfold bytesV
        simp only [List.map_cons, List.map_nil, UInt8.toNat_add, UInt8.toNat_ofNat']
        congr 2
        omega
      go_wp2_with (at_builtin; refine wpList_append_own _ rfl (.tmp 9) (.tmp 15) 34 rfl w.heap.size 5 i0 _ 1 1 Try.underlying34 hi0 hz0 hz1 hz2 rfl (by omega) _ k _ rfl hva ⟨wr.heap.size, 0, none⟩ 1 1 [.int .u8 (((b.toNat : Int) + (k : Int) % 7) % 256)] rfl rfl (fun j u hu => by rw [Addr.add_mid, Nat.zero_add]; exact hob.cell (by simpa using hu)) (by simp [Value.oneCell']) (by unfold maxLen; omega) (by omega) hba.size ?_; intro v1 w1 hv1 hg1 hat1)
      exact ⟨⟨k + 1, by omega, by go_num, by rw [hbyte]; exact hv1, hba.grown hg1 hba.size (fun g e => (hv.lt g e).1)⟩, by simp [intOf]; omega⟩
    · obtain rfl : k = 64 := by omega
      go_wp2
      go_ret
      exact ⟨⟨_, rfl, hv⟩, hb⟩
end Se
end Go.Proofs.Yteiniahikhiadaa

namespace Go.Proofs.Yteiniahikhiadaa
open Go.RowKit Go.Maps
namespace Se
open Ce
theorem BlkAt.bytes {w w' : World} {v : Value} {b : Blk} (h : BlkAt w w' v b) (hb : b.length = 64) : BytesAt w' w.heap.size w'.heap.size v b := by
  obtain ⟨g, rfl, h1, h2, h3, -⟩ := h
  refine ⟨by rw [bytesV_length, hb], _, _, by rw [hb], by rw [hb]; exact Nat.le_refl _, by unfold maxLen; omega, fun _ => ⟨g, 0, rfl, h1, h2, fun j hj => ?_⟩⟩
  have hjl : j < (bytesV b).length := by rw [bytesV_length]; omega
  rw [List.getElem?_eq_getElem hjl]
  exact h3 j _ (List.getElem?_eq_getElem hjl)
theorem DvAt.dev_same {w w' : World} {base d sb mb : Nat} {D : Dv} (h : DvAt w base d sb mb D) (hb : Below w.heap.size w w') : DvAt w' base d sb mb D := h.same hb
theorem eql_nil (b : Nat) (w : World) : (binOp .eql 72 (.func (.func 72) #[] #[.pointer (some ⟨b, 0, none⟩)]) .nilFunc).run Try.prog w = .ok (.bool false) w := by kernel_rfl
def lv2 : Dv := (writeD (newD 2) 0 (blockL 1)).1
def lv3 : Dv := (writeD lv2 1 (blockL 2)).1
def lv4 : Dv := (crashD lv3 [1] (-1) 0).1
theorem lv_w1 : (writeD (newD 2) 0 (blockL 1)).2 = 0 := by decide +kernel
theorem lv_w2 : (writeD lv2 1 (blockL 2)).2 = 0 := by decide +kernel
theorem lv_c : (crashD lv3 [1] (-1) 0).2 = 0 := by decide +kernel
theorem lv_off : offD lv4 = false := by decide +kernel
theorem lv_len : lv4.sure.length = 2 := by decide +kernel
theorem lv_r0 : lastD lv4 0 = List.replicate 64 0 := by decide +kernel
theorem lv_r1 : lastD lv4 1 = blockL 2 := by decide +kernel
theorem blockL_len (b : UInt8) : (blockL b).length = 64 := by unfold blockL; simp
set_option maxRecDepth 100000 in
set_option maxHeartbeats 4000000 in
theorem lives_calls (w : World) : Calls Try.prog 37 #[] w fun e w' => e = .returned (.bool true) ∧ Below w.heap.size w w' := by
  have hef := eql_nil
  go_enter Try.func37, Try.ntmps37
  go_wp2_with fail
  refine (new_calls 2 w (by omega) (by omega)).mono ?_
  rintro e W1 ⟨⟨d, sb, mb, rfl, hD1⟩, hB1⟩
  go_wp2_with fail
  refine (new_bad 0 W1 (by omega)).mono ?_
  rintro e W ⟨rfl, rfl⟩
  go_wp2_with fail
  refine (dirty_calls _ rfl W1).mono ?_
  rintro e W2 ⟨rfl, hW2⟩
  have hb2 : Below W1.heap.size W1 W2 := by rw [hW2]; exact (Below.refl _ _).alloc (Nat.le_refl _) _
  have HD2 := Lib.hid (hD1.same hb2)
  have HB2 := Lib.hid (hB1.trans (hb2.mono hB1.size))
  clear hW2 hb2 hD1 hB1
  go_wp2_with fail
  refine (show Calls Try.prog 39 #[.int .u8 1] W2 _ from block_calls 1 W2).mono ?_
  rintro e W3 ⟨⟨v1, rfl, hv1⟩, hb3⟩
  have hD3 := HD2.out.same hb3
  have hd2 := HD2.out.ob.lt
  have hm2 := HD2.out.map.lt
  have CW1 := Lib.hid (write_calls hD3 0 (blockL 1) v1 W2.heap.size W3.heap.size (BytesAt.of_own hv1) (Nat.le_refl _) hd2 hm2)
  rw [lv_w1] at CW1
  have HB3 := Lib.hid (HB2.out.trans (hb3.mono HB2.out.size))
  have hlo := HD2.out.lo
  clear hD3 hb3 hv1 HD2 HB2 hd2 hm2
  go_wp2_with fail
  refine CW1.out.mono ?_
  rintro e W4 ⟨rfl, hD4, hdv⟩
  have HB4 := Lib.hid (HB3.out.trans (Dev.below hdv HB3.out.size hlo))
  have HD4 := Lib.hid (show DvAt W4 w.heap.size d sb mb lv2 from hD4)
  clear hD4 hdv CW1 HB3
  go_wp2_with fail
  refine (show Calls Try.prog 39 #[.int .u8 2] W4 _ from block_calls 2 W4).mono ?_
  rintro e W5 ⟨⟨v2, rfl, hv2⟩, hb5⟩
  have hD5 := HD4.out.same hb5
  have hd4 := HD4.out.ob.lt
  have hm4 := HD4.out.map.lt
  have CW2 := Lib.hid (write_calls hD5 1 (blockL 2) v2 W4.heap.size W5.heap.size (BytesAt.of_own hv2) (Nat.le_refl _) hd4 hm4)
  rw [lv_w2] at CW2
  have HB5 := Lib.hid (HB4.out.trans (hb5.mono HB4.out.size))
  clear hD5 hb5 hv2 HD4 HB4 hd4 hm4
  go_wp2_with fail
  refine CW2.out.mono ?_
  rintro e W6 ⟨rfl, hD6, hdv⟩
  have HB6 := Lib.hid (HB5.out.trans (Dev.below hdv HB5.out.size hlo))
  have HD6 := Lib.hid (show DvAt W6 w.heap.size d sb mb lv3 from hD6)
  clear hD6 hdv CW2 HB5
  have hal : Below W6.heap.size W6 (W6.alloc (.cells #[.int .i64 1] 3)) := (Below.refl _ _).alloc (Nat.le_refl _) _
  have hK : IntsAt (W6.alloc (.cells #[.int .i64 1] 3)) W6.heap.size (W6.heap.size + 1) (.slice (some ⟨W6.heap.size, 0, none⟩) 1 1) [1] := by
    have := Sl.new W6 #[.int .i64 1] 3 (n := 1) (size := 1) rfl (by unfold maxLen; omega)
    exact this
  have hD7 := HD6.out.same hal
  have CC := Lib.hid (crash_calls hD7 [1] _ _ _ hK (by
    intro i h1 h2
    have := HD6.out.ob.lt
    have := HD6.out.sure.lt
    have := HD6.out.map.lt
    simp only [World.size_alloc]
    omega) (-1) 0)
  rw [lv_c] at CC
  have HB7 := Lib.hid (HB6.out.trans (hal.mono HB6.out.size))
  clear hal hK hD7 HD6 HB6
  go_wp2_with fail
  refine CC.out.mono ?_
  rintro e W8 ⟨rfl, hD8, hdv⟩
  have HB8 := Lib.hid (HB7.out.trans (Dev.below hdv HB7.out.size hlo))
  have HD8 := Lib.hid (show DvAt W8 w.heap.size d sb mb lv4 from hD8)
  clear hD8 hdv CC HB7
  have CR0 := Lib.hid (read_good HD8.out lv_off 0 (by rw [lv_len]; omega))
  rw [lv_r0] at CR0
  go_wp2_with fail
  refine CR0.out.mono ?_
  rintro e W9 ⟨⟨x, rfl, hx⟩, hb9⟩
  have HD9 := Lib.hid (HD8.out.same hb9)
  have HB9 := Lib.hid (HB8.out.trans (hb9.mono HB8.out.size))
  have HX := Lib.hid ((hx.bytes (by simp)).wide (Nat.zero_le _) (Nat.le_refl _))
  obtain ⟨gx, rfl, -⟩ := hx
  have CR1 := Lib.hid (read_good HD9.out lv_off 1 (by rw [lv_len]; omega))
  rw [lv_r1] at CR1
  clear hb9 CR0 HD8 HB8
  go_wp2_with fail
  refine CR1.out.mono ?_
  rintro e WA ⟨⟨y, rfl, hy⟩, hbA⟩
  have HDA := Lib.hid (HD9.out.same hbA)
  have HBA := Lib.hid (HB9.out.trans (hbA.mono HB9.out.size))
  have HY := Lib.hid ((hy.bytes (blockL_len 2)).wide (Nat.zero_le _) (Nat.le_refl _))
  have HXA := Lib.hid (HX.out.mono hbA hbA.size)
  obtain ⟨gy, rfl, -⟩ := hy
  clear hbA CR1 HD9 HB9 HX
  go_wp2_with fail
  --REGION
  have hdr := (Below.refl WA.heap.size WA).drew
  have HBX := Lib.hid (fun V (hb : Below WA.heap.size WA V) => string_of V (HXA.out.below hb))
  have HBY := Lib.hid (fun V (hb : Below WA.heap.size WA V) => string_of V (HY.out.below hb))
  have cL := Lib.hid (fun V (hb : Below WA.heap.size WA V) => len_calls (HDA.out.same hb))
  have cO := Lib.hid (fun V (hb : Below WA.heap.size WA V) => off_calls (HDA.out.same hb))
  rw [lv_len] at cL
  rw [lv_off] at cO
  have cB := Lib.hid (fun V => show Calls Try.prog 39 #[.int .u8 2] V _ from block_calls 2 V)
  have HBA2 := Lib.hid (fun V (hb : Below WA.heap.size WA V) => HBA.out.trans (hb.mono HBA.out.size))
  have hbl2 := blockL_len 2
  generalize blockL 2 = bl at *
  have HBL := Lib.hid hbl2
  clear hbl2
  obtain ⟨z, hz⟩ : ∃ z : List UInt8, z = List.replicate 64 0 := ⟨_, rfl⟩
  rw [← hz] at HBX
  have HZ := Lib.hid hz
  clear hz
  refine Pu.regionM [(0, false), (1, false), (2, false), (3, false), (4, false), (5, false), (6, false), (7, false), (8, false), (9, false), (10, false), (11, false), (12, false), (13, false), (14, false), (15, false), (16, false), (17, false), (18, false), (19, false), (20, false), (21, true), (22, false), (23, false), (24, false), (25, false), (26, false), (27, false), (28, true), (29, false), (30, false), (31, false), (32, false), (33, false), (34, false), (35, false), (36, false), (37, false), (38, false), (39, false), (40, false), (41, false), (42, false)] (fun V => Below WA.heap.size WA V) hmx (by kernel_rfl) (by kernel_rfl) (by kernel_rfl) hdr rfl ?_
  simp only [Pu.named, List.filterMap_cons, List.filterMap_nil, List.getElem?_toArray, List.getElem?_cons_succ, List.getElem?_cons_zero, Option.map_some]
  iterate 21 (first
    | (refine Pu.WalkM.off (by rfl) ?_; simp only [Act.put, List.setIfInBounds_toArray, List.set_cons_succ, List.set_cons_zero])
    | (apply Pu.WalkM.on (by rfl)
       · intro V hV
         have hcx := HBX.out V hV
         go_wp2_with fail
         refine ⟨rfl, ?_, rfl⟩
         try simp only [Act.put, List.setIfInBounds_toArray, List.set_cons_succ, List.set_cons_zero]
         rfl
       simp only [Act.put, List.setIfInBounds_toArray, List.set_cons_succ, List.set_cons_zero]))
  refine Pu.WalkM.make (by rfl) ?_
  intro V hV
  rw [hV]
  clear hV V
  obtain ⟨WB, hmk0, hz1, hzg⟩ := make_bytes 64 WA.drew (by omega)
  have hmk : (Instr.makeSlice 34 (.int .i64 64) (.int .i64 64)).run Try.prog WA.drew = .ok (.slice (some ⟨WA.heap.size, 0, none⟩) 64 64) WB := hmk0
  clear hmk0
  have hbm : Below WA.heap.size WA WB := hdr.grown hzg hdr.size (by simp)
  have hzb := BytesAt.of_own hz1
  rw [← HZ.out] at hzb
  have HBZ := Lib.hid (fun V (hb : Below WB.heap.size WB V) => show (convert 34 9 (.slice (some ⟨WA.heap.size, 0, none⟩) 64 64)).run Try.prog V = _ from string_of V (hzb.below hb))
  have HBM := Lib.hid hbm
  clear hz1 hzg hzb
  go_wp2_with fail
  refine ⟨rfl, .slice (some ⟨WA.heap.size, 0, none⟩) 64 64, (fun V => Below WB.heap.size WB V), (fun V => V = WB), ?_, rfl, (fun V h => by rw [h]; exact Below.refl _ _), (.inr (fun V h => HBM.out.trans (h.mono HBM.out.size))), ?_⟩
  · try simp only [Act.put, List.setIfInBounds_toArray, List.set_cons_succ, List.set_cons_zero]
  try simp only [Act.put, List.setIfInBounds_toArray, List.set_cons_succ, List.set_cons_zero]
  iterate 6 (first
    | (refine Pu.WalkM.off (by rfl) ?_; simp only [Act.put, List.setIfInBounds_toArray, List.set_cons_succ, List.set_cons_zero])
    | (apply Pu.WalkM.on (by rfl)
       · intro V hV
         have hcz := HBZ.out V hV
         have hcy := HBY.out V (HBM.out.trans (hV.mono HBM.out.size))
         go_wp2_with fail
         refine ⟨rfl, ?_, rfl⟩
         try simp only [Act.put, List.setIfInBounds_toArray, List.set_cons_succ, List.set_cons_zero]
         rfl
       simp only [Act.put, List.setIfInBounds_toArray, List.set_cons_succ, List.set_cons_zero]))
  refine Pu.WalkM.make (by rfl) ?_
  intro V hV
  rw [hV]
  clear hV V
  go_wp2_with (go_at_call 39; refine (cB.out WB).mono ?_; rintro e WC ⟨⟨v3, rfl, hv3⟩, hbC⟩)
  have hBC := Lib.hid (HBM.out.trans (hbC.mono HBM.out.size))
  have hbl3 := BytesAt.of_own hv3
  obtain ⟨A3, c3, rfl, -⟩ := hbl3.form
  have HB3 := Lib.hid (fun V (hb : Below WC.heap.size WC V) => string_of V (hbl3.below hb))
  have HBC2 := Lib.hid hbC
  clear hv3 hbC hbl3
  refine ⟨rfl, .slice A3 bl.length c3, (fun V => Below WC.heap.size WC V), (fun V => V = WC), ?_, rfl, (fun V h => by rw [h]; exact Below.refl _ _), (.inr (fun V h => HBC2.out.trans (h.mono HBC2.out.size))), ?_⟩
  · try simp only [Act.put, List.setIfInBounds_toArray, List.set_cons_succ, List.set_cons_zero]
  try simp only [Act.put, List.setIfInBounds_toArray, List.set_cons_succ, List.set_cons_zero]
  iterate 14 (first
    | (refine Pu.WalkM.off (by rfl) ?_; simp only [Act.put, List.setIfInBounds_toArray, List.set_cons_succ, List.set_cons_zero])
    | (apply Pu.WalkM.on (by rfl)
       · intro V hV
         have hb5 := hBC.out.trans (hV.mono hBC.out.size)
         have hcz := HB3.out V hV
         have cL1 := Lib.hid (cL.out V hb5)
         have cO1 := Lib.hid (cO.out V hb5)
         go_wp2_with (first | (go_at_call 43; refine cL1.out.mono ?_; rintro e V2 ⟨rfl, rfl⟩) | (go_at_call 42; refine cO1.out.mono ?_; rintro e V2 ⟨rfl, rfl⟩))
         refine ⟨rfl, ?_, rfl⟩
         try simp only [Act.put, List.setIfInBounds_toArray, List.set_cons_succ, List.set_cons_zero]
         rfl
       simp only [Act.put, List.setIfInBounds_toArray, List.set_cons_succ, List.set_cons_zero]))
  refine Pu.WalkM.nil ?_
  intro V hV
  rw [hV]
  clear hV V
  go_wp2
  go_ret
  exact ⟨rfl, HBA2.out _ hBC.out⟩
end Se
end Go.Proofs.Yteiniahikhiadaa

namespace Go.Proofs.Yteiniahikhiadaa
open Go.RowKit Go.Maps
namespace Se
open Ce
theorem Ob.six {w : World} {b : Nat} {t : TypeId} {v0 v1 v2 v3 v4 v5 : Value} (h : Ob w b t #[v0, v1, v2, v3, v4, v5]) :
    w.cell? ⟨b, 0, none⟩ = some v0 ∧ w.cell? ⟨b, 1, none⟩ = some v1 ∧ w.cell? ⟨b, 2, none⟩ = some v2 ∧ w.cell? ⟨b, 3, none⟩ = some v3 ∧ w.cell? ⟨b, 4, none⟩ = some v4 ∧ w.cell? ⟨b, 5, none⟩ = some v5 :=
  ⟨h.cell rfl, h.cell rfl, h.cell rfl, h.cell rfl, h.cell rfl, h.cell rfl⟩
theorem write_ok {D : Dv} {i : Int} {b : Blk} (h : (writeD D i b).2 = 0) : (writeD D i b).1 = { spendD D with dm := bPut D.dm i b, wr := wrap64 (D.wr + 1) } ∧ (0 ≤ i ∧ i < D.sure.length) := by
  unfold writeD at h ⊢
  split
  · rename_i h1
    rw [if_pos h1] at h
    simp at h
  · rename_i h1
    rw [if_neg h1] at h
    split
    · rename_i h2
      rw [if_pos h2] at h
      simp at h
    · exact ⟨rfl, by omega⟩
theorem write_no {D : Dv} {i : Int} {b : Blk} (h : (writeD D i b).2 ≠ 0) : (writeD D i b).1 = D := by
  unfold writeD at h ⊢
  split
  · rfl
  · rename_i h1
    rw [if_neg h1] at h
    split
    · rfl
    · rename_i h2
      rw [if_neg h2] at h
      exact (h rfl).elim
theorem write_wr {D : Dv} {i : Int} {b : Blk} (h : (writeD D i b).2 = 0) : (writeD D i b).1.wr = wrap64 (D.wr + 1) ∧ (writeD D i b).1.fl = D.fl := by
  rw [(write_ok h).1]
  exact ⟨rfl, spendD_fl D⟩
theorem flush_fl {D : Dv} (h : (flushD D).2 = 0) : (flushD D).1.fl = wrap64 (D.fl + 1) ∧ (flushD D).1.wr = D.wr := by
  unfold flushD at h ⊢
  split
  · rename_i h1
    rw [if_pos h1] at h
    simp at h
  · exact ⟨rfl, spendD_wr D⟩
theorem flush_no {D : Dv} (h : (flushD D).2 ≠ 0) : (flushD D).1 = D := by
  unfold flushD at h ⊢
  split
  · rfl
  · rename_i h1
    rw [if_neg h1] at h
    exact (h rfl).elim
theorem crash_wr (D : Dv) (keep : List Int) (t n : Int) : (crashD D keep t n).1.wr = D.wr ∧ (crashD D keep t n).1.fl = D.fl := by
  unfold crashD
  split <;> exact ⟨rfl, rfl⟩
theorem wrap_small {x : Int} {k : Nat} (h0 : 0 ≤ x) (h1 : x ≤ k) (hk : k < 200) : wrap64 (x + 1) = x + 1 := by unfold wrap64; omega
theorem write_sure (D : Dv) (i : Int) (b : Blk) : (writeD D i b).1.sure = D.sure := by
  unfold writeD
  split
  · rfl
  · split
    · rfl
    · exact spendD_sure D
/-- a sector that is sure, and not dirty -/
def Safe (D : Dv) (i : Nat) (bl : Blk) : Prop := D.sure.length = 8 ∧ i < 8 ∧ D.sure.getD i [] = bl ∧ bGet D.dm i = none
theorem Safe.write {D : Dv} {i : Nat} {bl : Blk} (h : Safe D i bl) {j : Int} (hj : j ≠ i) (b : Blk) : Safe (writeD D j b).1 i bl := by
  by_cases hc : (writeD D j b).2 = 0
  · rw [(write_ok hc).1]
    refine ⟨by dsimp only; rw [spendD_sure]; exact h.1, h.2.1, by dsimp only; rw [spendD_sure]; exact h.2.2.1, ?_⟩
    dsimp only
    rw [bGet_put, if_neg (Ne.symm hj)]
    exact h.2.2.2
  · rw [write_no hc]
    exact h
theorem getD_map (f : Nat → Blk) (n i : Nat) (hi : i < n) : ((List.range n).map f).getD i [] = f i := by
  rw [List.getD_eq_getElem?_getD, List.getElem?_map, List.getElem?_range hi]
  rfl
theorem Safe.flush {D : Dv} {i : Nat} {bl : Blk} (h : Safe D i bl) : Safe (flushD D).1 i bl := by
  by_cases hc : (flushD D).2 = 0
  · unfold flushD at hc ⊢
    split
    · exact h
    · refine ⟨by simpa using h.1, h.2.1, ?_, rfl⟩
      dsimp only
      rw [getD_map _ _ _ (by rw [h.1]; exact h.2.1)]
      unfold lastD
      rw [h.2.2.2]
      exact h.2.2.1
  · rw [flush_no hc]
    exact h
theorem Safe.stop {D : Dv} {i : Nat} {bl : Blk} (h : Safe D i bl) (n : Int) : Safe (stopD D n) i bl := h
theorem Safe.crash {D : Dv} {i : Nat} {bl : Blk} (h : Safe D i bl) (keep : List Int) (t n : Int) : Safe (crashD D keep t n).1 i bl := by
  unfold crashD
  split
  · exact h
  · refine ⟨by simpa using h.1, h.2.1, ?_, rfl⟩
    dsimp only
    rw [getD_map _ _ _ (by rw [h.1]; exact h.2.1)]
    unfold crashB
    rw [h.2.2.2]
    exact h.2.2.1
theorem Safe.start {i : Nat} (hi : i < 8) (b : UInt8) : (writeD (newD 8) i (blockL b)).2 = 0 ∧ (flushD (writeD (newD 8) i (blockL b)).1).2 = 0 ∧ Safe (flushD (writeD (newD 8) i (blockL b)).1).1 i (blockL b) := by
  have hw : writeD (newD 8) i (blockL b) = ({ newD 8 with dm := [((i : Int), blockL b)], wr := 1 }, 0) := by
    unfold writeD
    rw [if_neg (by rw [blockL_len]; simp [newD]; omega)]
    simp [offD, newD, spendD, bPut, bDel, bIns, wrap64]
  rw [hw]
  refine ⟨rfl, rfl, ?_, hi, ?_, rfl⟩
  · simp [flushD, offD, newD]
  · simp only [flushD, offD, newD, Bool.false_and, Bool.false_eq_true, if_false]
    rw [getD_map _ _ _ (by simpa using hi)]
    simp [lastD, bGet]
theorem Safe.end_ {D : Dv} {i : Nat} {bl : Blk} (h : Safe D i bl) : offD (crashD D [] i 64).1 = false ∧ (crashD D [] i 64).1.sure.length = 8 ∧ lastD (crashD D [] i 64).1 i = bl := by
  have h2 := h.crash [] i 64
  refine ⟨by unfold crashD offD; simp, h2.1, ?_⟩
  unfold lastD
  rw [h2.2.2.2]
  exact h2.2.2.1
end Se
end Go.Proofs.Yteiniahikhiadaa

namespace Go.Proofs.Yteiniahikhiadaa
open Go.RowKit Go.Maps
namespace Wa
open Ce Se
/-- what holds of both where a round is entered -/
def AtLoop (w wr : World) (d sb mb zb x xs lb tb n : Nat) (lv xv : Value) : Prop :=
  ∃ X Y b c D R L, lv = .pointer (some ⟨b, 0, none⟩) ∧ xv = .pointer (some ⟨c, 0, none⟩) ∧ Two wr w.heap.size b d sb mb X Y zb c x xs lb tb n D R L ∧ Below w.heap.size w wr
set_option maxRecDepth 100000 in
set_option maxHeartbeats 32000000 in
theorem does_mid (n : Nat) (os : List WOp) (v : Value) (w : World) (hn1 : 1 ≤ n) (hn2 : n ≤ 60) (hO : WOpsAt w w.heap.size v os) (hok : ∀ o ∈ os, OkWOp o) :
    Calls Try.prog 6 #[.int .i64 (n : Int), v] w fun e w' => e = .returned (.bool true) ∧ Below w.heap.size w w' := by
  have hmx : Try.prog.follows .mixedOrders = true := by kernel_rfl
  obtain ⟨A, cc, rfl, hc1, hc2⟩ := hO.form
  unfold maxLen at hc2
  have t1 : decide ((n : Int) < 1) = false := by simp; omega
  have t3 : decide ((n : Int) > 60) = false := by simp; omega
  go_enter Try.func6, Try.ntmps6
  go_wp2_with fail
  refine (Se.new_calls n w (by omega) (by omega)).mono ?_
  rintro e W1 ⟨⟨d, sb, mb, rfl, hD1⟩, hB1⟩
  go_wp2_with fail
  refine (lives_calls W1).mono ?_
  rintro e W2 ⟨rfl, hb2⟩
  have HD2 := Lib.hid (hD1.same hb2)
  have HB2 := Lib.hid (hB1.trans (hb2.mono hB1.size))
  clear hb2 hD1 hB1
  go_wp2_with fail
  refine (rnew_calls n W2 (by omega) (by omega)).mono ?_
  rintro e W3 ⟨⟨x, xs, lb, tb, rfl, hR3⟩, hb3⟩
  have HT3 := Lib.hid (show DevTwo W3 w.heap.size d sb mb W2.heap.size x xs lb tb n (newD n) (newR n) from ⟨HD2.out.same hb3, hR3, ⟨OkD.new n, Along.new n, by simp [newD]⟩, ⟨HD2.out.ob.lt, HD2.out.sure.lt, HD2.out.map.lt⟩, HB2.out.size⟩)
  have HB3 := Lib.hid (HB2.out.trans (hb3.mono HB2.out.size))
  clear hb3 hR3 HD2 HB2
  generalize W2.heap.size = zb at *
  clear t1 t3
  go_wp2_with fail
  have hag := open_agree HT3.out.pr
  refine (open_calls HT3.out.dv).mono ?_
  rintro e W4 ⟨pv, rfl, hD4, hdev4, hno4, hso4⟩
  have hR4 := rv_dev HT3.out.rv hdev4 HT3.out.lt
  have hs34 := Kept.size hdev4
  have hb4 : Below w.heap.size w W4 := HB3.out.trans (Dev.below hdev4 HB3.out.size HT3.out.dv.lo)
  have HB4 := Lib.hid hb4
  have HR4 := Lib.hid hR4
  have HS4 := Lib.hid hs34
  cases hop : (openD (newD n)).2.1 with
  | none =>
    obtain rfl := hno4 hop
    have hop2 : (openR (newR n)).2.1 = none := by rw [hag.1]; exact hop
    have her2 : (openR (newR n)).2.2 = (openD (newD n)).2.2 := by rw [hag.1]
    have cR := ropen_calls (Z := fun _ => True) hR4 (fun _ _ => trivial)
    rw [her2] at cR
    have CR := Lib.hid cR
    have HOP2 := Lib.hid hop2
    have hlo := HT3.out.rv.lo
    have hz0 := HT3.out.lo
    have HLO := Lib.hid (show w.heap.size ≤ x ∧ w.heap.size ≤ xs ∧ w.heap.size ≤ lb ∧ w.heap.size ≤ tb by omega)
    generalize (openD (newD n)).2.2 = er at *
    clear hno4 hso4 hD4 hdev4 hR4 hb4 hop hop2 her2 cR hag hs34 hlo hz0
    go_wp2_with fail
    refine CR.out.mono ?_
    rintro e W5 ⟨rv, rfl, -, hrev5, hno5, -⟩
    obtain rfl := hno5 HOP2.out
    have HB5 := Lib.hid (HB4.out.trans (Rev.below hrev5 HB4.out.size HLO.out))
    clear hrev5 hno5 CR
    go_wp2_with fail
    go_loopw [8, 10, 12] (fun lv xv i wr => lv = .pointer none ∧ xv = .pointer none ∧ i = .int .i64 0 ∧ Below w.heap.size w wr) (fun _ _ _ _ => 0)
    case atStart => exact ⟨rfl, rfl, rfl, HB5.out⟩
    case round =>
      clear HB5
      obtain ⟨rfl, rfl, rfl, hB⟩ := hrel
      have HB := Lib.hid hB
      clear hB
      by_cases hl0 : 0 < os.length
      · have hd : decide ((0 : Int) < (os.length : Int)) = true := by simp; omega
        have hd' : decide (0 < os.length) = true := by simpa using hl0
        go_wp2
        go_ret
        exact ⟨rfl, HB.out⟩
      · have hd : decide ((0 : Int) < (os.length : Int)) = false := by rw [decide_eq_false_iff_not]; omega
        have hd' : decide (0 < os.length) = false := by rw [decide_eq_false_iff_not]; exact hl0
        go_wp2
        go_ret
        exact ⟨rfl, HB.out⟩
  | some L =>
    obtain ⟨b, X, Y, rfl, hlg4, hy4⟩ := hso4 L hop
    have hop2 : (openR (newR n)).2.1 = some L := by rw [hag.1]; exact hop
    have her2 : (openR (newR n)).2.2 = (openD (newD n)).2.2 := by rw [hag.1]
    have cR := ropen_calls (Z := fun i => ¬ X i) hR4 (fun i hi hx => by have := (hlg4.y i (hlg4.xy i hx)).2; omega)
    rw [her2] at cR
    have CR := Lib.hid cR
    have HOP2 := Lib.hid hop2
    have HLG4 := Lib.hid hlg4
    have HY4 := Lib.hid hy4
    have hlo := HT3.out.rv.lo
    have hz0 := HT3.out.lo
    have HLO := Lib.hid (show w.heap.size ≤ x ∧ w.heap.size ≤ xs ∧ w.heap.size ≤ lb ∧ w.heap.size ≤ tb by omega)
    generalize (openD (newD n)).2.2 = er at *
    clear hno4 hso4 hD4 hdev4 hR4 hb4 hop hop2 her2 cR hag hs34 hlo hz0 hlg4 hy4
    go_wp2_with fail
    refine CR.out.mono ?_
    rintro e W5 ⟨rv, rfl, -, hrev5, -, hso5⟩
    obtain ⟨c, rfl, hrl5, hc5⟩ := hso5 L HOP2.out
    have HT5 := Lib.hid (two_open HT3.out HS4.out HLG4.out HY4.out hrl5 hrev5 hc5)
    have HB5 := Lib.hid (HB4.out.trans (Rev.below hrev5 HB4.out.size HLO.out))
    clear hrev5 hso5 CR hrl5 hc5 HLG4 HY4 HR4 HT3 HB3 HB4
    go_wp2_with fail
    go_loopw [8, 10, 12] (fun lv xv i wr => ∃ k : Nat, k ≤ os.length ∧ i = .int .i64 k ∧ AtLoop w wr d sb mb zb x xs lb tb n lv xv) (fun _ _ i _ => os.length - (intOf i).toNat)
    case atStart => exact ⟨0, by omega, rfl, X, Y, b, c, _, _, L, rfl, rfl, HT5.out, HB5.out⟩
    case round =>
      clear HT5 HB5
      obtain ⟨k, hk, rfl, X, Y, b, c, D, R, L, rfl, rfl, hT, hB⟩ := hrel
      by_cases hlt : k < os.length
      · have hd : decide ((k : Int) < (os.length : Int)) = true := by simp; omega
        have hd' : decide (k < os.length) = true := by simpa using hlt
        obtain ⟨bo, po, bv, lv, kv, rfl, hbo, hIb, hIl, hIk, g0, g1, g2, g3, g4, g5⟩ := hO.at_ hlt
        have hwb := hB.size
        replace g0 := (hB.cell (p := ⟨bo, po + k * 6, none⟩) hbo).trans g0
        replace g1 := (hB.cell (p := ⟨bo, po + k * 6 + 1, none⟩) hbo).trans g1
        replace g2 := (hB.cell (p := ⟨bo, po + k * 6 + 2, none⟩) hbo).trans g2
        replace g3 := (hB.cell (p := ⟨bo, po + k * 6 + 3, none⟩) hbo).trans g3
        replace g4 := (hB.cell (p := ⟨bo, po + k * 6 + 4, none⟩) hbo).trans g4
        replace g5 := (hB.cell (p := ⟨bo, po + k * 6 + 5, none⟩) hbo).trans g5
        have hoo := Lib.hid (hok _ (List.getElem_mem hlt))
        generalize os[k] = o at *
        obtain ⟨Ab, cb, rfl, hcb1, hcb2⟩ := hIb.form
        obtain ⟨Al, cl, rfl, hcl1, hcl2⟩ := hIl.form
        obtain ⟨Ak, ck, rfl, hck1, hck2, -⟩ := hIk.form
        have HIB := Lib.hid hIb
        have HIL := Lib.hid hIl
        have HIK := Lib.hid hIk
        have hal := (Below.refl wr.heap.size wr).alloc (Nat.le_refl _) (.cells #[.int .i64 o.kd, .slice Ab o.b.length cb, .slice Al o.l.length cl, .slice Ak o.keep.length ck, .int .i64 o.i, .int .i64 o.n] 43)
        have hO1 := Ob.new wr 43 #[.int .i64 o.kd, .slice Ab o.b.length cb, .slice Al o.l.length cl, .slice Ak o.keep.length ck, .int .i64 o.i, .int .i64 o.n]
        have HXZ := Lib.hid (hT.szx.1)
        have HFZ := Lib.hid (show c < wr.heap.size ∧ x < wr.heap.size ∧ xs < wr.heap.size ∧ lb < wr.heap.size ∧ tb < wr.heap.size from ⟨hT.rl.lg.choose_spec.1.lt, hT.rl.dv.ob.lt, hT.rl.dv.sure.lt, hT.rl.dv.last.lt, hT.rl.dv.dirty.lt⟩)
        have HT := Lib.hid (hT.same hal)
        have HB := Lib.hid (hB.trans (hal.mono hwb))
        have hz : wr.heap.size < (wr.alloc (.cells #[.int .i64 o.kd, .slice Ab o.b.length cb, .slice Al o.l.length cl, .slice Ak o.keep.length ck, .int .i64 o.i, .int .i64 o.n] 43)).heap.size := by simp
        clear hIb hIl hIk hal hT hB hcb1 hcb2 hcl1 hcl2 hck1 hck2
        go_upto_region 15 with (fail)
        generalize wr.alloc (.cells #[.int .i64 o.kd, .slice Ab o.b.length cb, .slice Al o.l.length cl, .slice Ak o.keep.length ck, .int .i64 o.i, .int .i64 o.n] 43) = WA at *
        generalize wr.heap.size = z at *
        have CL := Lib.hid (large_calls o (.slice Ab o.b.length cb) (.slice Al o.l.length cl) (.slice Ak o.keep.length ck) WA (HIB.out.mono HB.out HB.out.size) ((HIL.out.below HB.out).up HB.out.size) ⟨Ak, _, ck, rfl⟩ hoo.out)
        clear g0 g1 g2 g3 g4 g5
        go_wp2_with (refine wpList_load_obg (by rfl) _ _ rfl rfl _ hO1 Try.underlying43 rfl (by kernel_rfl) ?_)
        refine CL.out.mono ?_
        rintro e WB ⟨hq, hbB⟩
        have HTB := Lib.hid (HT.out.same hbB)
        have HBB := Lib.hid (HB.out.trans (hbB.mono HB.out.size))
        have hO2 := hO1.same hbB
        have hzB : z < WB.heap.size := Nat.lt_of_lt_of_le hz hbB.size
        clear HT HB hO1 hz CL hbB
        rcases hq with rfl | ⟨rfl, hlen⟩
        · go_wp2
          go_roundw
          case rel => exact ⟨k + 1, by omega, by go_num, X, Y, b, c, D, R, L, rfl, rfl, HTB.out, HBB.out⟩
          case measure => simp [intOf]; omega
        · obtain ⟨q0, q1, q2, q3, q4, q5⟩ := Ob.six hO2
          go_upto_block 2 with (fail)
          go_cut [8, 10, 14] (fun lv xv ov W => ov = .bool true ∧ ∃ X Y b c D R L, lv = .pointer (some ⟨b, 0, none⟩) ∧ xv = .pointer (some ⟨c, 0, none⟩) ∧ Two W w.heap.size b d sb mb X Y zb c x xs lb tb n D R L ∧ Below w.heap.size w W)
          case first =>
            have hbs := HBB.out.size
            have hx0 := HTB.out.szx
            by_cases e1 : o.kd = 1
            · have f1 : (o.kd == 1) = true := by simpa using e1
              clear e1
              obtain ⟨i0, hi0, hz0⟩ := Option.map_eq_some_iff.1 byteInfo
              simp only [Prod.mk.injEq] at hz0
              obtain ⟨hz0, hz1, hz2⟩ := hz0
              have q1a := (hO2.alloc (.cells #[] 5)).cell (j := 1) (v := .slice Ab o.b.length cb) rfl
              have HSL := Lib.hid (Sl.below HIB.out (HBB.out.alloc hbs (.cells #[] 5)))
              go_wp2_with (at_builtin; refine wpList_append_sl _ rfl (.tmp 85) (.tmp 87) _ rfl WB.heap.size 5 i0 _ 1 1 Try.underlying34 hi0 hz0 hz1 hz2 rfl (by omega) (.slice (some ⟨WB.heap.size, 0, none⟩) 0 0) 0 [] rfl (World.ownsRow_lit (e := 5) (size := 1) WB #[] 0 (Nat.le_refl _) (Nat.zero_le _) rfl) 0 w.heap.size _ o.b.length (bytesV o.b) rfl HSL.out (bytesV_one _) (by unfold maxLen; omega) (by omega) (by simp) ?_; intro v4 W4 hv4 hg4 hat4; have hb4 := ((Below.refl WB.heap.size WB).alloc (Nat.le_refl _) (.cells #[] 5)).grown hg4 (by simp) (fun k e => by cases e; exact Nat.le_refl _); simp only [Nat.zero_add, List.nil_append] at hv4; have hs4 := hb4.size; obtain ⟨A4, c4, rfl, -⟩ := (BytesAt.of_own hv4).form; have HV4 := Lib.hid hv4; have HB4 := Lib.hid hb4; clear hg4 hat4 hv4 hb4)
              have HT4 := Lib.hid (HTB.out.same HB4.out)
              have hb4w := HBB.out.trans (HB4.out.mono hbs)
              have cA := append_calls HT4.out.lg (l := o.b) (v := .slice A4 o.b.length c4) ⟨WB.heap.size, W4.heap.size, BytesAt.of_own HV4.out, Nat.le_refl _, fun i h1 h2 hx => by have := hx0.1 i hx; omega⟩
              have hpa := (pair_sim n).put_append HTB.out.pr L (szD D) o.b
              have hsz := HTB.out.pr.sz
              obtain ⟨P, hP⟩ : ∃ P, P = appendG writeD D L (szD D) o.b := ⟨_, rfl⟩
              rw [← hP] at cA hpa
              have CA := Lib.hid cA
              have HPA := Lib.hid hpa
              have HSZ := Lib.hid hsz
              have HB4w := Lib.hid hb4w
              clear cA hpa hsz hP HV4 HSL hb4w hz0 hz1 hz2 hi0 q1a q0 q1 q2 q3 q4 q5
              go_wp2_with fail
              refine CA.out.mono ?_
              rintro e W5 ⟨rfl, X', Y', hlg5, hg5⟩
              have HM5 := Lib.hid (HT4.out.mid hlg5 hg5)
              have HB5 := Lib.hid (HB4w.out.trans (hg5.belowB HB4w.out.size fun i hi => hx0.2 i (HTB.out.lg.xy i hi)))
              have hO5 := Kept.ob hg5.kp (hO2.same HB4.out) ⟨(hO2.same HB4.out).lt, fun hx => by have := HXZ.out z hx; omega⟩
              have q1 := hO5.cell (j := 1) (v := .slice Ab o.b.length cb) rfl
              have cR := rappend_calls HM5.out.rl HM5.out.new (HIB.out.mono HB5.out HB5.out.size)
              rw [HSZ.out, HPA.out.1] at cR
              have CR := Lib.hid cR
              clear cR hlg5 hg5 CA HT4 hO5
              go_wp2_with fail
              refine CR.out.mono ?_
              rintro e W6 ⟨rfl, hrl6, hrv6⟩
              have HT6 := Lib.hid (HM5.out.two hrl6 hrv6 HPA.out.2)
              have HB6 := Lib.hid (HB5.out.trans (hrv6.belowB HB5.out.size HM5.out.doc HM5.out.lo))
              clear hrl6 hrv6 CR HM5 q1
              obtain ⟨P1, P2, P3, P4⟩ := P
              go_wp2
              go_meet
              case rel => exact ⟨rfl, X', Y', b, c, _, _, _, rfl, rfl, HT6.out, HB6.out⟩
            · have f1 : (o.kd == 1) = false := by simpa using e1
              clear e1
              by_cases e2 : o.kd = 2
              · have f2 : (o.kd == 2) = true := by simpa using e2
                clear e2
                have cA := sync_calls HTB.out.lg
                have hpa := (pair_sim n).put_sync HTB.out.pr L
                obtain ⟨P, hP⟩ : ∃ P, P = syncG flushD D L := ⟨_, rfl⟩
                rw [← hP] at cA hpa
                have CA := Lib.hid cA
                have HPA := Lib.hid hpa
                clear cA hpa hP
                go_wp2_with fail
                refine CA.out.mono ?_
                rintro e W5 ⟨rfl, hlg5, hk5⟩
                have hg5 : Grew WB W5 X Y X Y := Grew.of_kept hk5
                have HM5 := Lib.hid (HTB.out.mid hlg5 hg5)
                have HB5 := Lib.hid (HBB.out.trans (hg5.belowB hbs fun i hi => hx0.2 i (HTB.out.lg.xy i hi)))
                have cR := rsync_calls HM5.out.rl
                rw [HPA.out.1] at cR
                have CR := Lib.hid cR
                clear cR hlg5 hg5 hk5 CA q0 q1 q2 q3 q4 q5
                go_wp2_with fail
                refine CR.out.mono ?_
                rintro e W6 ⟨rfl, hrl6, hrv6⟩
                have HT6 := Lib.hid (HM5.out.two hrl6 hrv6 HPA.out.2)
                have HB6 := Lib.hid (HB5.out.trans (hrv6.belowB HB5.out.size HM5.out.doc HM5.out.lo))
                clear hrl6 hrv6 CR HM5
                obtain ⟨P1, P2, P3⟩ := P
                go_wp2
                go_meet
                case rel => exact ⟨rfl, X, Y, b, c, _, _, _, rfl, rfl, HT6.out, HB6.out⟩
              · have f2 : (o.kd == 2) = false := by simpa using e2
                clear e2
                by_cases e3 : o.kd = 3
                · have f3 : (o.kd == 3) = true := by simpa using e3
                  clear e3
                  have hdr := (Below.refl WB.heap.size WB).drew
                  have HTd := Lib.hid (HTB.out.same hdr)
                  have HBd := Lib.hid (HBB.out.drew)
                  have hOd := hO2.same hdr
                  have hdz := hdr.size
                  have cA := compact_calls HTd.out.lg (es := o.l) (vals := (HIL.out.below HBd.out).choose) (xv := .slice Al o.l.length cl) (HIL.out.below HBd.out).choose_spec.1 (HIL.out.below HBd.out).choose_spec.2 HBd.out.size
                  have hpa := (pair_sim n).put_compact HTB.out.pr L (szD D) o.l
                  have hsz := HTB.out.pr.sz
                  obtain ⟨P, hP⟩ : ∃ P, P = compactG writeD flushD D L (szD D) o.l := ⟨_, rfl⟩
                  rw [← hP] at cA hpa
                  have CA := Lib.hid cA
                  have HPA := Lib.hid hpa
                  have HSZ := Lib.hid hsz
                  clear cA hpa hsz hP q0 q1 q2 q3 q4 q5 hdr
                  go_wp2_with fail
                  refine Pu.regionM [(0, false), (1, false), (2, false), (4, false), (5, false), (6, false), (3, true), (7, true), (8, false), (9, false)] (fun V => V.cell? ⟨z, 2, none⟩ = some (.slice Al o.l.length cl)) hmx (by kernel_rfl) (by kernel_rfl) (by kernel_rfl) (hOd.cell (j := 2) rfl) rfl ?_
                  simp only [Pu.named, List.filterMap_cons, List.filterMap_nil, List.getElem?_toArray, List.getElem?_cons_succ, List.getElem?_cons_zero, Option.map_some]
                  iterate 6 (apply Pu.WalkM.on (by rfl)
                             · rintro V hV
                               have q2 := hV
                               go_wp2_with fail
                               refine ⟨rfl, ?_, rfl⟩
                               try simp only [Act.put, List.setIfInBounds_toArray, List.set_cons_succ, List.set_cons_zero]
                               rfl
                             simp only [Act.put, List.setIfInBounds_toArray, List.set_cons_succ, List.set_cons_zero])
                  refine Pu.WalkM.make (by rfl) ?_
                  rintro V rfl
                  go_wp2_with fail
                  refine CA.out.mono ?_
                  rintro e W5 ⟨rfl, X', Y', hlg5, hg5⟩
                  have HM5 := Lib.hid (HTd.out.mid hlg5 hg5)
                  have HB5 := Lib.hid (HBd.out.trans (hg5.belowB HBd.out.size fun i hi => hx0.2 i (HTB.out.lg.xy i hi)))
                  have hO5 := Kept.ob hg5.kp hOd ⟨hOd.lt, fun hx => by have := HXZ.out z hx; omega⟩
                  have hdoc := HM5.out.doc
                  have hzlo := HM5.out.lo
                  have hbase := HM5.out.lg.y
                  have hxy := HM5.out.lg.xy
                  have hL5 : ListsIn W5 (FrZ c x xs lb tb (fun i => ¬ X' i)) (.slice Al o.l.length cl) o.l := by
                    obtain ⟨vals, q1, q2⟩ := HIL.out.below HB5.out
                    have hsB := HB5.out.size
                    have key : ∀ i, i < w.heap.size → FrZ c x xs lb tb (fun i => ¬ X' i) i := fun i hi => ⟨⟨by omega, by omega, by omega, by omega, by omega⟩, fun hx => by have := (hbase i (hxy i hx)).1; omega⟩
                    exact ⟨0, w.heap.size, vals, q1, hsB, fun i _ h => key i h, q2.mono fun i hi => key i hi⟩
                  have cR := rcompact_calls HM5.out.rl HM5.out.new hL5
                  rw [HSZ.out, HPA.out.1] at cR
                  have CR := Lib.hid cR
                  have hO5c : W5.cell? ⟨z, 2, none⟩ = some (.slice Al o.l.length cl) := hO5.cell (j := 2) rfl
                  clear cR hlg5 hg5 CA hO5 hL5 hbase hxy
                  go_wp2_with fail
                  refine ⟨rfl, .int .i64 P.2.2, (fun V => V.cell? ⟨z, 2, none⟩ = some (.slice Al o.l.length cl)), (fun V => V = W5), ?_, rfl, (fun V h => by rw [h]; exact hO5c), (.inr (fun _ h => h)), ?_⟩
                  · try simp only [Act.put, List.setIfInBounds_toArray, List.set_cons_succ, List.set_cons_zero]
                    try rfl
                  simp only [Act.put, List.setIfInBounds_toArray, List.set_cons_succ, List.set_cons_zero]
                  refine Pu.WalkM.make (by rfl) ?_
                  rintro V rfl
                  go_wp2_with fail
                  refine CR.out.mono ?_
                  rintro e W6 ⟨rfl, hrl6, hrv6⟩
                  have HT6 := Lib.hid (HM5.out.two hrl6 hrv6 HPA.out.2)
                  have HB6 := Lib.hid (HB5.out.trans (hrv6.belowB HB5.out.size HM5.out.doc HM5.out.lo))
                  have hO6c : W6.cell? ⟨z, 2, none⟩ = some (.slice Al o.l.length cl) := by
                    refine (World.cell?_of_block (Kept.block hrv6 z ⟨?_, ?_⟩)).trans hO5c
                    · have := HM5.out.lg.dv.ob.lt
                      exact World.block_lt_of_cell? _ _ hO5c
                    · have := HFZ.out
                      exact ⟨by omega, by omega, by omega, by omega, by omega⟩
                  clear hrl6 hrv6 CR HM5
                  go_wp2_with fail
                  refine ⟨rfl, .int .i64 P.2.2, (fun V => V = W6), (fun V => V = W6), ?_, rfl, (fun _ h => h), (.inr (fun V h => by rw [h]; exact hO6c)), ?_⟩
                  · try simp only [Act.put, List.setIfInBounds_toArray, List.set_cons_succ, List.set_cons_zero]
                    try rfl
                  simp only [Act.put, List.setIfInBounds_toArray, List.set_cons_succ, List.set_cons_zero]
                  iterate 2 (apply Pu.WalkM.on (by rfl)
                             · rintro V hV
                               rw [hV]
                               go_wp2_with fail
                               refine ⟨rfl, ?_, rfl⟩
                               try simp only [Act.put, List.setIfInBounds_toArray, List.set_cons_succ, List.set_cons_zero]
                               rfl
                             simp only [Act.put, List.setIfInBounds_toArray, List.set_cons_succ, List.set_cons_zero])
                  refine Pu.WalkM.nil ?_
                  rintro V rfl
                  clear hO5c hO6c hOd
                  obtain ⟨P1, P2, P3⟩ := P
                  go_wp2
                  go_meet
                  case rel => exact ⟨rfl, X', Y', b, c, _, _, _, rfl, rfl, HT6.out, HB6.out⟩
                · have f3 : (o.kd == 3) = false := by simpa using e3
                  clear e3
                  by_cases e4 : o.kd = 4
                  · have f4 : (o.kd == 4) = true := by simpa using e4
                    clear e4
                    have hdr := (Below.refl WB.heap.size WB).drew
                    have HTd := Lib.hid ((HTB.out.same hdr).dev)
                    have HBd := Lib.hid (HBB.out.drew)
                    have hOd := hO2.same hdr
                    have hdz := hdr.size
                    have hn4 : 4 ≤ n := by have h1 := HTB.out.lg.len; have h2 := HTB.out.pr.2.2; omega
                    have hzd : d < z ∧ sb < z ∧ mb < z := ⟨HXZ.out d HTB.out.lg.x.2.1, HXZ.out sb HTB.out.lg.x.2.2.1, HXZ.out mb HTB.out.lg.x.2.2.2⟩
                    have hdlo := HTd.out.dv.lo
                    have hrlo := HTd.out.rv.lo
                    have hdl1 := HTd.out.dv.ob.lt
                    have hdl2 := HTd.out.dv.sure.lt
                    have hdl3 := HTd.out.dv.map.lt
                    have CA := Lib.hid (crash_calls HTd.out.dv o.keep (.slice Ak o.keep.length ck) 0 w.heap.size (HIK.out.below HBd.out) (fun i _ h => by have := HBd.out.size; omega) o.i o.n)
                    have hpa := HTd.out.pr.2.1.crash o.keep o.i o.n
                    have hok1 := HTd.out.pr.1.crash o.keep o.i o.n
                    have hln1 := (len_crashW D o.keep o.i o.n).trans HTd.out.pr.2.2
                    have HPA := Lib.hid hpa
                    have HOK1 := Lib.hid hok1
                    have HLN1 := Lib.hid hln1
                    clear hpa hok1 hln1 q0 q1 q2 q3 q4 q5 hdr hO2 HTB HBB hx0
                    go_wp2_with fail
                    refine Pu.regionM [(0, false), (1, false), (2, false), (3, false), (4, false), (5, false), (6, false), (8, false), (9, false), (10, false), (11, false), (12, false), (13, false), (14, false), (7, true), (15, true), (16, false)] (fun V => Ob V z 43 #[.int .i64 o.kd, .slice Ab o.b.length cb, .slice Al o.l.length cl, .slice Ak o.keep.length ck, .int .i64 o.i, .int .i64 o.n]) hmx (by kernel_rfl) (by kernel_rfl) (by kernel_rfl) hOd rfl ?_
                    simp only [Pu.named, List.filterMap_cons, List.filterMap_nil, List.getElem?_toArray, List.getElem?_cons_succ, List.getElem?_cons_zero, Option.map_some]
                    iterate 14 (apply Pu.WalkM.on (by rfl)
                                · rintro V hV
                                  obtain ⟨q0, q1, q2, q3, q4, q5⟩ := Ob.six hV
                                  go_wp2_with fail
                                  refine ⟨rfl, ?_, rfl⟩
                                  try simp only [Act.put, List.setIfInBounds_toArray, List.set_cons_succ, List.set_cons_zero]
                                  rfl
                                simp only [Act.put, List.setIfInBounds_toArray, List.set_cons_succ, List.set_cons_zero])
                    refine Pu.WalkM.make (by rfl) ?_
                    rintro V rfl
                    go_wp2_with fail
                    refine CA.out.mono ?_
                    rintro e W5 ⟨rfl, hD5, hv5⟩
                    have hR5 := rv_dev HTd.out.rv hv5 HTd.out.lt
                    have hB5 := HBd.out.trans (Dev.below hv5 HBd.out.size hdlo)
                    have hO5 := Kept.ob hv5 hOd ⟨hOd.lt, by omega, by omega, by omega⟩
                    have cR := rcrash_calls hR5 o.keep (.slice Ak o.keep.length ck) 0 w.heap.size (HIK.out.below hB5) (fun i _ h => by have := hB5.size; have := HTd.out.lo; omega) o.i o.n
                    rw [HPA.out.1] at cR
                    have CR := Lib.hid cR
                    have HD5 := Lib.hid hD5
                    have HB5 := Lib.hid hB5
                    have hs5 := Kept.size hv5
                    clear cR hD5 hv5 hR5 hB5 CA
                    generalize (crashD D o.keep o.i o.n).2 = cd at *
                    go_wp2_with fail
                    refine ⟨rfl, .int .i64 cd, (fun V => Ob V z 43 #[.int .i64 o.kd, .slice Ab o.b.length cb, .slice Al o.l.length cl, .slice Ak o.keep.length ck, .int .i64 o.i, .int .i64 o.n]), (fun V => V = W5), ?_, rfl, (fun V h => by rw [h]; exact hO5), (.inr (fun _ h => h)), ?_⟩
                    · try simp only [Act.put, List.setIfInBounds_toArray, List.set_cons_succ, List.set_cons_zero]
                      try rfl
                    simp only [Act.put, List.setIfInBounds_toArray, List.set_cons_succ, List.set_cons_zero]
                    refine Pu.WalkM.make (by rfl) ?_
                    rintro V rfl
                    go_wp2_with fail
                    refine CR.out.mono ?_
                    rintro e W6 ⟨rfl, hR6, hrv6⟩
                    have hO6 := Kept.ob hrv6 hO5 (by have := HFZ.out; exact ⟨hO5.lt, by omega, by omega, by omega, by omega⟩)
                    have HT6 := Lib.hid (show DevTwo W6 w.heap.size d sb mb zb x xs lb tb n (crashD D o.keep o.i o.n).1 (crashR R o.keep o.i o.n).1 from ⟨dv_rev HD5.out hrv6 HTd.out.lt hrlo, hR6, ⟨HOK1.out, HPA.out.2, HLN1.out⟩, HTd.out.lt, HTd.out.lo⟩)
                    have HB6 := Lib.hid (HB5.out.trans (Rev.below hrv6 HB5.out.size (by have := HTd.out.lo; omega)))
                    clear hR6 hrv6 CR HTd HBd HD5 HB5 HPA HOK1 HLN1
                    go_wp2_with fail
                    refine ⟨rfl, .int .i64 cd, (fun V => V = W6), (fun V => V = W6), ?_, rfl, (fun _ h => h), (.inr (fun V h => by rw [h]; exact hO6)), ?_⟩
                    · try simp only [Act.put, List.setIfInBounds_toArray, List.set_cons_succ, List.set_cons_zero]
                      try rfl
                    simp only [Act.put, List.setIfInBounds_toArray, List.set_cons_succ, List.set_cons_zero]
                    iterate 1 (apply Pu.WalkM.on (by rfl)
                               · rintro V hV
                                 rw [hV]
                                 go_wp2_with fail
                                 refine ⟨rfl, ?_, rfl⟩
                                 try simp only [Act.put, List.setIfInBounds_toArray, List.set_cons_succ, List.set_cons_zero]
                                 rfl
                               simp only [Act.put, List.setIfInBounds_toArray, List.set_cons_succ, List.set_cons_zero])
                    refine Pu.WalkM.nil ?_
                    rintro V rfl
                    clear hO5 hO6 hOd hs5
                    generalize (crashD D o.keep o.i o.n).1 = D1 at *
                    generalize (crashR R o.keep o.i o.n).1 = R1 at *
                    have CA := Lib.hid (crash_calls HT6.out.dv [] (.slice none 0 0) 0 0 (IntsAt.nil V 0 0) (fun i _ h => by omega) (-1) 0)
                    go_wp2_with fail
                    refine CA.out.mono ?_
                    rintro e W7 ⟨rfl, hD7, hv7⟩
                    have hR7 := rv_dev HT6.out.rv hv7 HT6.out.lt
                    have HB7 := Lib.hid (HB6.out.trans (Dev.below hv7 HB6.out.size hdlo))
                    have CR := Lib.hid (rcrash_calls hR7 [] (.slice none 0 0) 0 0 (IntsAt.nil W7 0 0) (fun i _ h => by omega) (-1) 0)
                    have HD7 := Lib.hid hD7
                    clear hD7 hv7 hR7 CA
                    go_wp2_with fail
                    refine CR.out.mono ?_
                    rintro e W8 ⟨rfl, hR8, hrv8⟩
                    have hp8 : Pair n (crashD D1 [] (-1) 0).1 (crashR R1 [] (-1) 0).1 := ⟨HT6.out.pr.1.crash [] (-1) 0, (HT6.out.pr.2.1.crash [] (-1) 0).2, (len_crashW D1 [] (-1) 0).trans HT6.out.pr.2.2⟩
                    have hal8 := Alive.crash HT6.out.pr.1 HT6.out.pr.2.2
                    have HT8 := Lib.hid (show DevTwo W8 w.heap.size d sb mb zb x xs lb tb n (crashD D1 [] (-1) 0).1 (crashR R1 [] (-1) 0).1 from ⟨dv_rev HD7.out hrv8 HT6.out.lt hrlo, hR8, hp8, HT6.out.lt, HT6.out.lo⟩)
                    have HB8 := Lib.hid (HB7.out.trans (Rev.below hrv8 HB7.out.size (by have := HT6.out.lo; omega)))
                    clear hR8 hrv8 CR HD7 HB7 HT6 HB6
                    generalize (crashD D1 [] (-1) 0).1 = D2 at *
                    generalize (crashR R1 [] (-1) 0).1 = R2 at *
                    obtain ⟨oe, ⟨L2, oL⟩, -⟩ := hal8.open_ok hn4
                    have hag := open_agree hp8
                    have hoe : (openD D2).2.2 = 0 := by unfold openD; rw [hp8.2.2]; exact oe
                    have hoL : (openD D2).2.1 = some L2 := by unfold openD; rw [hp8.2.2]; exact oL
                    have hre : (openR R2).2.2 = 0 := by rw [hag.1]; exact hoe
                    have hrL : (openR R2).2.1 = some L2 := by rw [hag.1]; exact hoL
                    have cA := open_calls HT8.out.dv
                    rw [hoe] at cA
                    have CA := Lib.hid cA
                    have HOL := Lib.hid hoL
                    have HRE := Lib.hid hre
                    have HRL := Lib.hid hrL
                    clear cA hoe hoL hre hrL oe oL hag hp8 hal8
                    go_wp2_with fail
                    refine CA.out.mono ?_
                    rintro e W9 ⟨pv, rfl, hD9, hdev9, -, hso9⟩
                    obtain ⟨b2, X2, Y2, rfl, hlg9, hy9⟩ := hso9 L2 HOL.out
                    have hR9 := rv_dev HT8.out.rv hdev9 HT8.out.lt
                    have hs9 := Kept.size hdev9
                    have HB9 := Lib.hid (HB8.out.trans (Dev.below hdev9 HB8.out.size hdlo))
                    have cR := ropen_calls (Z := fun i => ¬ X2 i) hR9 (fun i hi hx => by have := (hlg9.y i (hlg9.xy i hx)).2; omega)
                    rw [HRE.out] at cR
                    have CR := Lib.hid cR
                    have HLG9 := Lib.hid hlg9
                    have HY9 := Lib.hid hy9
                    have HS9 := Lib.hid hs9
                    clear cR hD9 hdev9 hso9 hlg9 hy9 hR9 hs9 CA
                    go_wp2_with fail
                    refine CR.out.mono ?_
                    rintro e W10 ⟨rv, rfl, -, hrev10, -, hso10⟩
                    obtain ⟨c2, rfl, hrl10, hc10⟩ := hso10 L2 HRL.out
                    have HT10 := Lib.hid (two_open HT8.out HS9.out HLG9.out HY9.out hrl10 hrev10 hc10)
                    have HB10 := Lib.hid (HB9.out.trans (Rev.below hrev10 HB9.out.size (by have := HT8.out.lo; omega)))
                    clear hrev10 hso10 CR hrl10 hc10 HLG9 HY9 HT8 HB8 HB9 HS9
                    go_wp2
                    go_meet
                    case rel => exact ⟨rfl, X2, Y2, b2, c2, _, _, L2, rfl, rfl, HT10.out, HB10.out⟩
                  · have f4 : (o.kd == 4) = false := by simpa using e4
                    clear e4
                    by_cases e5 : o.kd = 5
                    · have f5 : (o.kd == 5) = true := by simpa using e5
                      clear e5
                      have CA := Lib.hid (stop_calls HTB.out.lg.dv o.n hoo.out.n.1 hoo.out.n.2)
                      go_wp2_with fail
                      refine CA.out.mono ?_
                      rintro e W5 ⟨rfl, hD5, hg5⟩
                      have hk5 : Kept (fun i => i < WB.heap.size ∧ i ≠ b ∧ i ≠ d ∧ i ≠ sb ∧ i ≠ mb) WB W5 := Kept.of_grown hg5 fun i hi => ⟨hi.1, fun e => hi.2.2.1 (Option.some.inj e)⟩
                      have hne := HTB.out.lg.ne
                      have hlg5 := HTB.out.lg.remake hk5 hD5 rfl (su := L.sure) (fin := L.fin) (fun ev tv ho => Ob.kept ho hg5 (fun e => hne.1 (Option.some.inj e))) HTB.out.lg.ok.sure
                      have hgr : Grew WB W5 X Y X Y := Grew.of_kept (kept_x HTB.out.lg.x hk5)
                      have HM5 := Lib.hid (HTB.out.mid hlg5 hgr)
                      have HB5 := Lib.hid (HBB.out.trans (hgr.belowB hbs fun i hi => hx0.2 i (HTB.out.lg.xy i hi)))
                      have hO5 := Kept.ob hgr.kp hO2 ⟨hO2.lt, fun hx => by have := HXZ.out z hx; omega⟩
                      have q5' := hO5.cell (j := 5) (v := .int .i64 o.n) rfl
                      have CR := Lib.hid (rstop_calls HM5.out.rl.dv o.n hoo.out.n.1 hoo.out.n.2)
                      clear hD5 hg5 hk5 hne hlg5 hgr hO5 CA q0 q1 q2 q3 q4 q5
                      go_wp2_with fail
                      refine CR.out.mono ?_
                      rintro e W6 ⟨rfl, hR6, hrv6⟩
                      have hkk := RLev.of_rev (b := c) hrv6
                      have hrl6 := HM5.out.rl.keep hkk hR6 rfl (su := L.sure) (fin := L.fin) (fun lv ho => Kept.ob hrv6 ho ⟨ho.lt, HM5.out.rl.ne⟩) HTB.out.lg.ok.sure
                      have HT6 := Lib.hid (HM5.out.two hrl6 hkk ⟨HTB.out.pr.1.stop hoo.out.n.1 hoo.out.n.2, HTB.out.pr.2.1.stop o.n, HTB.out.pr.2.2⟩)
                      have HB6 := Lib.hid (HB5.out.trans (hkk.belowB HB5.out.size HM5.out.doc HM5.out.lo))
                      clear hrv6 hkk hR6 hrl6 CR HM5 q5'
                      go_wp2
                      go_meet
                      case rel => exact ⟨rfl, X, Y, b, c, _, _, _, rfl, rfl, HT6.out, HB6.out⟩
                    · have f5 : (o.kd == 5) = false := by simpa using e5
                      clear e5 q0 q1 q2 q3 q4 q5
                      go_wp2
                      go_meet
                      case rel => exact ⟨rfl, X, Y, b, c, _, _, _, rfl, rfl, HTB.out, HBB.out⟩
          case rest =>
            clear HTB HBB hO2 hzB q0 q1 q2 q3 q4 q5
            obtain ⟨rfl, X, Y, b, c, D, R, L, rfl, rfl, hT, hB⟩ := hcut
            have HT := Lib.hid hT
            have HB := Lib.hid hB
            have CL := Lib.hid (looks_calls wc hT.lg hT.rl hT.pr.sz)
            clear hT hB
            go_wp2_with fail
            refine CL.out.mono ?_
            rintro e WC ⟨rfl, hb1⟩
            have HT1 := Lib.hid (HT.out.same hb1)
            have HB1 := Lib.hid (HB.out.trans (hb1.mono HB.out.size))
            have CS := Lib.hid (same_calls WC HT1.out.lg.dv HT1.out.rl.dv HT1.out.pr.2.1)
            clear hb1 CL HT HB
            go_wp2_with fail
            refine CS.out.mono ?_
            rintro e WD ⟨rfl, hb2⟩
            have HT2 := Lib.hid (HT1.out.same hb2)
            have HB2 := Lib.hid (HB1.out.trans (hb2.mono HB1.out.size))
            clear hb2 CS HT1 HB1
            go_wp2
            go_roundw
            case rel => exact ⟨k + 1, by omega, by go_num, X, Y, b, c, D, R, L, rfl, rfl, HT2.out, HB2.out⟩
            case measure => simp [intOf]; omega
      · obtain rfl : k = os.length := by omega
        have hd : decide ((os.length : Int) < (os.length : Int)) = false := by simp
        have hd' : decide (os.length < os.length) = false := by simp
        have HB := Lib.hid hB
        clear hB hT
        go_wp2
        go_ret
        exact ⟨rfl, HB.out⟩
end Wa
end Go.Proofs.Yteiniahikhiadaa

namespace Go.Proofs.Yteiniahikhiadaa
open Go.ChangeShapes Go.WideShapes Go.ChangeAt Go.RowKit Go.Maps
namespace Wa
open Ce Se
set_option maxRecDepth 100000 in
theorem does_law (n : Int) (os : List WOp) (v : Value) (w : World) (hO : WOpsAt w w.heap.size v os) (hok : ∀ o ∈ os, OkWOp o) :
    Calls Try.prog 6 #[.int .i64 n, v] w fun e w' => e = .returned (.bool true) ∧ Below w.heap.size w w' := by
  by_cases h : 1 ≤ n ∧ n ≤ 60
  · obtain ⟨m, rfl⟩ := Int.eq_ofNat_of_zero_le (show 0 ≤ n by omega)
    exact does_mid m os v w (by omega) (by omega) hO hok
  · obtain ⟨A, c, rfl, -⟩ := hO.form
    have CL := Lib.hid (lives_calls w)
    clear hO hok
    by_cases h1 : n < 1
    · have t1 : decide (n < 1) = true := by simpa using h1
      clear h h1
      go_enter Try.func6, Try.ntmps6
      go_wp2_with fail
      refine CL.out.mono ?_
      rintro e W1 ⟨rfl, hb⟩
      go_wp2
      go_ret
      exact ⟨rfl, hb⟩
    · have t1 : decide (n < 1) = false := by simpa using h1
      have t2 : decide (n > 60) = true := by simp; omega
      clear h h1
      go_enter Try.func6, Try.ntmps6
      go_wp2_with fail
      refine CL.out.mono ?_
      rintro e W1 ⟨rfl, hb⟩
      go_wp2
      go_ret
      exact ⟨rfl, hb⟩
set_option maxRecDepth 100000 in
theorem walDoes_lifted (os : Os) (started : os.Started) (H : Type) (enc : TypeId × Value → H) :
    ReturnsInHanded {} Try.checked os 6 .any (Rows.walDoesSpec.pre6 enc Try.prog Try.f6 Rows.walDoesRow.domain false) (Rows.walDoesSpec.post enc Try.prog Try.f6 false true false false) := by
  refine returnsInHanded_of_change_sized (C := Try.checked) own started (by kernel_rfl) Try.func6
    (ChangeSpec.witness6 (enc := enc) (C := Try.checked) false ⟨#[], #[.int .i64 0, .slice none 0 0], []⟩ 8 (by kernel_rfl) (by kernel_rfl) (by kernel_rfl) (by kernel_rfl)) ?_
  intro W base args ds gs before hval0 hW _ hsz0 _
  have hsz : (DataW.weightsEach Try.prog (Try.f6.params.toList ++ Rows.walDoesSpec.plain.varTypes Try.prog) (ds ++ gs)).all (· ≤ reachBytes) = true := hsz0
  have hval : ∀ (j : Nat) t v, Try.f6.params[j]? = some t → args[j]? = some v → Value.okWide Try.prog W .any base t v := hval0
  obtain ⟨p, q, hA0, hV, hps, hfz, hnd⟩ := id hW
  have hA : DataW.TrodAll enc Try.prog W 0 (fun _ => true) true Try.f6.params.toList args.toList ds p := hA0
  rw [Try.params6] at hA hval hsz
  obtain ⟨v0, vs0, d0, ds0, p0, q0, hargs, rfl, rfl, h0, r0⟩ := trodAll_cons hA
  obtain ⟨v1, vs1, d1, ds1, p1, q1, rfl, rfl, rfl, h1, r1⟩ := trodAll_cons r0
  obtain ⟨rfl, rfl, rfl⟩ := trodAll_nil r1
  obtain rfl : args = #[v0, v1] := by cases args; simp_all
  obtain ⟨rfl, rfl⟩ := trodVars_none hV
  obtain ⟨n, rfl, rfl, rfl, wn⟩ := open_int Try.underlying3 (hval 0 3 v0 rfl rfl) h0
  obtain ⟨l, hl, fl⟩ := open_wops (j := 1) h1 (okWide_slice Try.underlying49 (hval 1 49 v1 rfl rfl)) hsz rfl rfl
  refine (does_law n l v1 W hl fl).mono fun e W' ⟨he, hb⟩ => ?_
  subst he
  exact ⟨_, rfl, law_post laidOut (by kernel_rfl) rfl Try.underlying4 rfl hW rfl hb⟩

theorem walDoes_holds : Rows.WalDoesSaid :=
  OpenClaim.holds_of_wide 6 Try.f6 rfl rfl rfl rfl rfl rfl rfl ⟨rfl, rfl, rfl, rfl, rfl⟩ rfl rfl rfl rfl rfl (by kernel_rfl) Try.func6 (by kernel_rfl)
    (of_decide_eq_true (by kernel_rfl)) (by unfold Func.isWrapper; first | (rw [if_pos (by decide +kernel)]; kernel_rfl) | (rw [if_neg (by decide +kernel)]; exact ⟨rfl, rfl⟩))
    (fun os started H enc _ => walDoes_lifted os started H enc)

end Wa
end Go.Proofs.Yteiniahikhiadaa
