/-
  sector: the laws' Block.
-/
import Derived.Test.YteiniahikhiadaaSeQ
import Derived.Laws.AppendOwn
namespace Go.Proofs.Yteiniahikhiadaa
open Go.RowKit Go.Maps
namespace Se
open Ce
theorem row_later {A B : World} {lo : Nat} {e : TypeId} {size n : Nat} {v : Value} {xs : List Value} (h : A.ownsRow lo e size v n xs) (hb : Below A.heap.size A B) : B.ownsRow lo e size v n xs := by
  refine ⟨h.1, h.2.elim Or.inl fun hx => .inr ?_⟩
  revert hx
  rintro ⟨g, cap, cur, rfl, hbg, hg, hnc⟩
  exact ⟨g, cap, cur, rfl, hbg, (hb.block g (Array.getElem?_eq_some_iff.1 hg).1).trans hg, hnc⟩
def blockL (b : UInt8) : List UInt8 := (List.range 64).map fun i => b + UInt8.ofNat (i % 7)
theorem byte_info : (Try.prog.info? 5).map (fun i => (i.zero, i.size, i.bytes)) = some (some (.int .u8 0), 1, 1) := by kernel_rfl
set_option maxRecDepth 100000 in
theorem block_calls (b : UInt8) (w : World) :
    Calls Try.prog 39 #[.int .u8 (b.toNat : Int)] w fun e w' => (∃ v, e = .returned v ∧ w'.ownsRow w.heap.size 5 1 v 64 (bytesV (blockL b))) ∧ Below w.heap.size w w' := by
  obtain ⟨i0, hi0, hz0⟩ := Option.map_eq_some_iff.1 byte_info
  simp only [Prod.mk.injEq] at hz0
  obtain ⟨hz0, hz1, hz2⟩ := hz0
  go_enter Try.func39, Try.ntmps39
  go_wp2
  go_loopw [3, 4] (fun v i wr => ∃ k : Nat, k ≤ 64 ∧ i = .int .i64 k ∧ wr.ownsRow w.heap.size 5 1 v k (bytesV ((List.range k).map fun i => b + UInt8.ofNat (i % 7))) ∧ Below w.heap.size w wr) (fun _ i _ => 64 - (intOf i).toNat)
  case atStart => exact ⟨0, by omega, rfl, World.ownsRow_nil _ _ _ _, Below.refl _ _⟩
  case round =>
    obtain ⟨k, hk, rfl, hv, hb⟩ := hrel
    by_cases hlt : k < 64
    · have hd : decide ((k : Int) < 64) = true := by simp; omega
      have hal := (Below.refl wr.heap.size wr).alloc (Nat.le_refl _) (.cells #[.int .u8 (((b.toNat : Int) + (k : Int) % 7) % 256)] 5)
      have hva := row_later hv hal
      have hob := Ob.new wr 5 #[.int .u8 (((b.toNat : Int) + (k : Int) % 7) % 256)]
      have hba := hb.trans (hal.mono hb.size)
      have hbyte : bytesV ((List.range (k + 1)).map fun i => b + UInt8.ofNat (i % 7)) = bytesV ((List.range k).map fun i => b + UInt8.ofNat (i % 7)) ++ [.int .u8 (((b.toNat : Int) + (k : Int) % 7) % 256)] := by
        rw [List.range_succ, List.map_append, bytesV_append]
        congr 1
        unfold bytesV
        simp only [List.map_cons, List.map_nil, UInt8.toNat_add, UInt8.toNat_ofNat']
        congr 2
        omega
      go_wp2_with (at_builtin; refine wpList_append_own _ rfl (.tmp 9) (.tmp 15) 34 rfl w.heap.size 5 i0 _ 1 1 Try.underlying34 hi0 hz0 hz1 hz2 rfl (by omega) _ k _ rfl hva ⟨wr.heap.size, 0, none⟩ 1 1 [.int .u8 (((b.toNat : Int) + (k : Int) % 7) % 256)] rfl rfl (fun j u hu => by rw [Addr.add_mid, Nat.zero_add]; exact hob.cell (by simpa using hu)) (by simp [Value.oneCell']) (by unfold maxLen; omega) (by omega) hba.size ?_; intro v1 w1 hv1 hg1 hat1)
      exact ⟨⟨k + 1, by omega, by go_num, by rw [hbyte]; exact hv1, hba.grown hg1 hba.size (fun g e => (hv.lt g e).1)⟩, by simp [intOf]; omega⟩
    · obtain rfl : k = 64 := by omega
      go_wp2
      go_ret
      exact ⟨⟨_, rfl, hv⟩, hb⟩
end Se
end Go.Proofs.Yteiniahikhiadaa
