/-
  items: what the law Codes says is true.
-/
import Derived.Test.YtloabanhoeaidaaItDD
import Derived.Deep.RegionWith
namespace Go.Proofs.Ytloabanhoeaidaa
open Go.RowKit
namespace It
open Ce

set_option maxRecDepth 100000 in
set_option maxHeartbeats 100000000 in
theorem codes_law (L : List Item) (v : Value) (w : World) (hI : ItemsAt w 0 w.heap.size v L) (hF : Fits L) :
    Calls Try.prog 9 #[v] w fun e w' => e = .returned (.bool true) ∧ Below w.heap.size w w' := by
  have HI := Lib.hid (fun W (h : Below w.heap.size w W) => hI.mono h h.size)
  have crM := Lib.hid (fun W h => refmay_calls L v W (HI.out W h) hF)
  have cE := Lib.hid (encode_calls L v w hI hF)
  have crE := Lib.hid (fun W h hm => refencode_calls L v W (HI.out W h) hF hm)
  have cL := Lib.hid lives_calls
  have hB : Below w.heap.size w w := Below.refl _ _
  have HC := Lib.hid (show codeI L = if may L then Ce.encI L else [] from rfl)
  have HE := Lib.hid (fun h => encI_len (l := L) h)
  have HD := Lib.hid (fun h => decI_put (L := L) h)
  obtain ⟨A, c, rfl, hc1, hc2⟩ := hI.form
  unfold maxLen at hc2
  by_cases hbig : 100 < L.length
  · have h1 : decide ((L.length : Int) > 100) = true := by simp; omega
    clear hbig
    go_enter Try.func9, Try.ntmps9
    go_wp2_with fail
    refine (cL.out _).mono ?_
    rintro e W ⟨rfl, hb1⟩
    go_wp2
    go_ret
    exact ⟨rfl, hb1⟩
  have hda : decide ((L.length : Int) > 100) = false := by simp; omega
  clear hbig
  generalize codeI L = C at *
  generalize may L = ml at *
  cases ml with
  | false =>
    obtain rfl : C = [] := by rw [HC.out]; rfl
    have hz : (if false = true then (0 : Int) else 60) = 60 := rfl
    rw [hz] at cE
    clear hz
    go_enter Try.func9, Try.ntmps9
    go_wp2_with fail
    refine cE.out.mono ?_
    rintro e W1 ⟨⟨u, rfl, hu⟩, hb1⟩
    obtain ⟨Au, cu, rfl, -⟩ := (BytesAt.of_own hu).form
    clear hu
    go_wp2_with fail
    refine (cL.out _).mono ?_
    rintro e W2 ⟨rfl, hb2⟩
    have hB2 := hb1.trans (hb2.mono hb1.size)
    go_wp2_with fail
    refine (crM.out _ hB2).mono ?_
    rintro e W3 ⟨rfl, hb3⟩
    have hB3 := hB2.trans (hb3.mono hB2.size)
    go_wp2
    go_ret
    exact ⟨rfl, hB3⟩
  | true =>
    obtain rfl : C = Ce.encI L := by rw [HC.out]; rfl
    have hz : (if true = true then (0 : Int) else 60) = 0 := rfl
    rw [hz] at cE
    clear hz
    have hle := HE.out rfl
    have hd := HD.out rfl
    have crE2 := Lib.hid (fun W h => crE.out W h rfl)
    clear crE
    have cD := Lib.hid (fun u W h => decode_calls (Ce.encI L) u W h (by omega))
    rw [hd] at cD
    have HDD := Lib.hid hd
    clear hd
    generalize hE : Ce.encI L = E at *
    have HEE := Lib.hid hE
    clear hE
    go_enter Try.func9, Try.ntmps9
    go_wp2_with fail
    refine cE.out.mono ?_
    rintro e W1 ⟨⟨u, rfl, hu⟩, hb1⟩
    have hu1 := BytesAt.all hu
    obtain ⟨Au, cu, rfl, -⟩ := hu1.form
    clear hu
    go_wp2_with fail
    refine (cL.out _).mono ?_
    rintro e W2 ⟨rfl, hb2⟩
    have hB2 := hb1.trans (hb2.mono hb1.size)
    have hu2 := hu1.mono hb2 hb2.size
    go_wp2_with fail
    refine (crM.out _ hB2).mono ?_
    rintro e W3 ⟨rfl, hb3⟩
    have hB3 := hB2.trans (hb3.mono hB2.size)
    have hu3 := hu2.mono hb3 hb3.size
    have cD3 := Lib.hid (cD.out _ W3 hu3)
    clear hb1 hb2 hb3 hu1 hu2
    go_wp2_with fail
    refine cD3.out.mono ?_
    rintro e W4 ⟨⟨x, rfl, hx⟩, hb4⟩
    have hB4 := hB3.trans (hb4.mono hB3.size)
    have hu4 := hu3.mono hb4 hb4.size
    have hx4 := toAt hx
    obtain ⟨Ax, cx, rfl, -⟩ := hx4.form
    have hB4d : Below w.heap.size w W4.drew := hB4.drew
    have HU := Lib.hid (fun W (h : Below W4.drew.heap.size W4.drew W) => (hu4.mono ((Below.refl _ W4).drew) (Nat.le_refl _) : BytesAt W4.drew 0 W4.drew.heap.size _ _).mono h h.size)
    have HX := Lib.hid (fun W (h : Below W4.drew.heap.size W4.drew W) => (hx4.mono ((Below.refl _ W4).drew) (Nat.le_refl _) : ItemsAt W4.drew 0 W4.drew.heap.size _ _).mono h h.size)
    have hc0 := run_string_at (P := Try.prog) (dst := 9) Try.underlying41 Try.underlying5 Try.underlying9 (HU.out _ (Below.refl _ _))
    have cS := Lib.hid (fun W h h' => refsame_calls L L _ _ W (HX.out W h) (HI.out W h'))
    rw [same_true] at cS
    have hR : Below W4.drew.heap.size W4.drew W4.drew := Below.refl _ _
    clear hx hx4 hu3 hu4 hb4
    go_wp2_with fail
    go_region_with (first | (go_at_call 37; refine (crE2.out _ hB4d).mono ?_; rintro e W5 ⟨⟨y, rfl, hy⟩, hb5⟩; have hR5 := hR.trans (hb5.mono hR.size); have hB5 := hB4d.trans (hb5.mono hB4d.size); obtain ⟨Ay, cy, rfl, -⟩ := hy.form; have hcy := run_string_at (P := Try.prog) (dst := 9) Try.underlying41 Try.underlying5 Try.underlying9 hy; have hcu := run_string_at (P := Try.prog) (dst := 9) Try.underlying41 Try.underlying5 Try.underlying9 (HU.out _ hR5)) | (go_at_call 20; refine (cS.out _ hR5 hB5).mono ?_; rintro e W6 ⟨rfl, hb6⟩; have hB6 := hB5.trans (hb6.mono hB5.size)))
    all_goals
      go_wp2
      go_ret
      exact ⟨rfl, hB6⟩

end It
end Go.Proofs.Ytloabanhoeaidaa
