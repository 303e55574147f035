/-
  moves: the document's changes, in plain words.
-/
import Derived.Test.YtdbkkldgobkjcaaMvP
import Derived.Test.YtdbkkldgobkjcaaMvM
import Derived.Test.YtdbkkldgobkjcaaMvK
namespace Go.Proofs.Ytdbkkldgobkjcaa
open Go.RowKit Go.Maps
namespace Mv
open It

abbrev Sorted (ds : List Way) : Prop := ds.Pairwise fun c d => c.mv < d.mv
theorem put_set {d : Way} : ∀ {ds : List Way}, Sorted ds → ∀ (i : Nat) (h : i < ds.length), ds[i].mv = d.mv → putW ds d = ds.set i d
  | c :: r, hp, 0, _, he => by
    replace hp := List.pairwise_cons.1 hp
    have he : c.mv = d.mv := he
    have h1 : delW (c :: r) d.mv = r := by
      unfold delW
      rw [List.filter_cons, if_neg (by simp [he]), List.filter_eq_self]
      intro x hx
      have := hp.1 x hx
      simp
      omega
    unfold putW
    rw [h1, ins_first (fun x hx => by have := hp.1 x hx; omega)]
    rfl
  | c :: r, hp, i + 1, h, he => by
    replace hp := List.pairwise_cons.1 hp
    have hi : i < r.length := by simpa using h
    have he : r[i].mv = d.mv := he
    have hc := hp.1 r[i] (List.getElem_mem hi)
    have ih := put_set hp.2 i hi he
    unfold putW at ih ⊢
    have h1 : delW (c :: r) d.mv = c :: delW r d.mv := by
      unfold delW
      rw [List.filter_cons, if_pos (by simp; omega)]
    rw [h1, insW, if_neg (by omega), ih]
    rfl
theorem del_erase : ∀ {ds : List Way}, Sorted ds → ∀ (i : Nat) (h : i < ds.length), delW ds ds[i].mv = ds.take i ++ ds.drop (i + 1)
  | c :: r, hp, 0, _ => by
    replace hp := List.pairwise_cons.1 hp
    show delW (c :: r) c.mv = r
    unfold delW
    rw [List.filter_cons, if_neg (by simp), List.filter_eq_self]
    intro x hx
    have := hp.1 x hx
    simp
    omega
  | c :: r, hp, i + 1, h => by
    replace hp := List.pairwise_cons.1 hp
    have hi : i < r.length := by simpa using h
    have hc := hp.1 r[i] (List.getElem_mem hi)
    have ih := del_erase hp.2 i hi
    show delW (c :: r) r[i].mv = c :: r.take i ++ r.drop (i + 1)
    rw [List.cons_append, ← ih]
    unfold delW
    rw [List.filter_cons, if_pos (by simp; omega)]
theorem ins_at {d : Way} : ∀ {ds : List Way} (j : Nat), j ≤ ds.length → (∀ i (h : i < ds.length), i < j → ds[i].mv < d.mv) → (∀ h : j < ds.length, d.mv < ds[j].mv) → insW d ds = ds.take j ++ [d] ++ ds.drop j
  | [], j, _, _, _ => by simp [insW]
  | c :: r, 0, _, _, h => by
    have : d.mv < c.mv := h (by simp)
    rw [insW, if_pos this]
    rfl
  | c :: r, j + 1, hj, h1, h => by
    have h0 := h1 0 (by simp) (by omega)
    simp only [List.getElem_cons_zero] at h0
    rw [insW, if_neg (by omega), ins_at j (by simpa using hj) (fun i hi hij => h1 (i + 1) (by simpa using hi) (by omega)) (fun hh => h (by simpa using hh))]
    rfl
theorem idx_find {ds : List Way} {k : Int} : (idxW ds k = -1 ∧ findW ds k = none) ∨ ∃ (i : Nat) (h : i < ds.length), idxW ds k = i ∧ findW ds k = some ds[i] ∧ ds[i].mv = k := by
  unfold idxW findW
  cases hf : ds.findIdx? (fun d => decide (d.mv = k)) with
  | none =>
    refine .inl ⟨rfl, ?_⟩
    rw [List.find?_eq_none]
    rw [List.findIdx?_eq_none_iff] at hf
    intro d hd
    simpa using hf d hd
  | some i =>
    rw [List.findIdx?_eq_some_iff_getElem] at hf
    obtain ⟨hi, he, hlt⟩ := hf
    refine .inr ⟨i, hi, rfl, ?_, by simpa using he⟩
    rw [List.find?_eq_some_iff_getElem]
    exact ⟨he, i, hi, rfl, fun j hj => by simpa using hlt j hj⟩
theorem idx_find' (ds : List Way) (k : Int) : decide (0 ≤ idxW ds k) = (findW ds k).isSome := by
  rcases @idx_find ds k with ⟨h1, h2⟩ | ⟨i, hi, h1, h2, -⟩
  · rw [h1, h2]; rfl
  · rw [h1, h2]; simp
theorem sorted_ins {d : Way} : ∀ {ds : List Way}, Sorted ds → (∀ c ∈ ds, c.mv ≠ d.mv) → Sorted (insW d ds)
  | [], _, _ => by simp [insW, Sorted]
  | c :: r, hp, hn => by
    have hp' := List.pairwise_cons.1 hp
    have hc := hn c (by simp)
    unfold insW
    split
    · rename_i h
      refine List.pairwise_cons.2 ⟨fun x hx => ?_, hp⟩
      rcases List.mem_cons.1 hx with rfl | hx
      · exact h
      · have := hp'.1 x hx; omega
    · refine List.pairwise_cons.2 ⟨fun x hx => ?_, sorted_ins hp'.2 (fun y hy => hn y (by simp [hy]))⟩
      rcases insW_mem hx with rfl | hx
      · omega
      · exact hp'.1 x hx
end Mv
end Go.Proofs.Ytdbkkldgobkjcaa
