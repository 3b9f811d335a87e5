/- slices.Sort of a row of int64 of one's own; the length at most a million. -/
import Derived.Test.YtameidoaenoppaaGreatDoorSh
import Derived.Test.YtameidoaenoppaaGreatDoorLP
import Derived.Shelf.SortM.Plain
namespace Go.Proofs.YtameidoaenoppaaGreatDoor
open Go.RowKit

theorem Own.holds1 {w : World} {e : TypeId} {g n c : Nat} {l : List Int} (h : Own w e eI64 (.slice (some ⟨g, 0, none⟩) n c) l) : Go.Sort.Holds (Value.int .i64) w g 0 l.toArray := by
  intro j hj
  have hj' : j < l.length := by simpa using hj
  refine ⟨?_, h.frozen _⟩
  have h1 := h.elem j 0 hj' (by decide)
  have e1 : j * eI64.k + 0 = j := Nat.mul_one j
  rw [e1] at h1
  rw [Nat.zero_add, h1, getElem!_pos _ j (by simpa using hj')]
  simp [eI64]
theorem Own.sorted1 {w : World} {e : TypeId} {g n c : Nat} {l : List Int} (h : Own w e eI64 (.slice (some ⟨g, 0, none⟩) n c) l) (hn : n = l.length) (l' : List Int) (hd : l'.length = l.length) (m : Nat) (os : Array Obj) :
    Own (Go.Sort.grow (Go.Sort.putRow (Value.int .i64) (Go.Sort.ahead w m) g 0 l'.toArray) os) e eI64 (.slice (some ⟨g, 0, none⟩) n c) l' ∧ Chg (fun x => x = g) w (Go.Sort.grow (Go.Sort.putRow (Value.int .i64) (Go.Sort.ahead w m) g 0 l'.toArray) os) := by
  subst hn
  have hlt : g < w.heap.size := h.lt rfl
  rcases h.row.2 with ⟨h0, _⟩ | ⟨g', cap, cur, h0, _, hg, hc, hm, hs, ht⟩
  · cases h0
  cases h0
  have hsz : (Go.Sort.putRow (Value.int .i64) (Go.Sort.ahead w m) g 0 l'.toArray).heap.size = w.heap.size := by simp [Go.Sort.putRow, Go.Sort.mapBlock, Go.Sort.ahead]
  have hblk : (Go.Sort.putRow (Value.int .i64) (Go.Sort.ahead w m) g 0 l'.toArray).heap[g]? = some (.cells (Go.Sort.putCells (Value.int .i64) 0 l'.toArray cur) e (0, 0)) := by
    simp [Go.Sort.putRow, Go.Sort.mapBlock, Go.Sort.ahead, Array.getElem?_modify, hg, Go.Sort.onCells]
  have hk : eI64.k = 1 := rfl
  have hflat : eI64.flat l' = l'.map (Value.int .i64) := (List.map_eq_flatMap).symm
  refine ⟨⟨by rw [eI64.flat_length], .inr ⟨g, c, Go.Sort.putCells (Value.int .i64) 0 l'.toArray cur, by simp [hd], Nat.zero_le _, ?_, by simpa [hd] using hc, hm, by simpa [Go.Sort.putCells] using hs, ?_⟩⟩, ?_⟩
  · unfold Go.Sort.grow
    simp only
    rw [Array.getElem?_append_left (by rw [hsz]; exact hlt)]
    exact hblk
  · have hcs : l.length ≤ cur.size := by rw [hs, hk, Nat.mul_one]; exact hc
    rw [hflat]
    apply List.ext_getElem?
    intro j
    rw [hd, hk, Nat.mul_one, List.getElem?_take, List.getElem?_map]
    by_cases hj : j < l.length
    · rw [if_pos hj]
      have hj2 : j < l'.length := by omega
      have hj3 : j < cur.size := by omega
      simp [Go.Sort.putCells, hj2, hj3]
    · rw [if_neg hj, List.getElem?_eq_none_iff.2 (by omega)]; rfl
  · refine ⟨rfl, rfl, rfl, ?_, fun k hk hne => ?_⟩
    · unfold Go.Sort.grow
      simp only [Array.size_append]
      omega
    · unfold Go.Sort.grow
      simp only
      rw [Array.getElem?_append_left (by rw [hsz]; exact hk)]
      simp [Go.Sort.putRow, Go.Sort.mapBlock, Go.Sort.ahead, Array.getElem?_modify, Ne.symm hne]
/-- The numbers, rising. -/
def srtI (l : List Int) : List Int := l.mergeSort fun x y => decide (x ≤ y)
theorem sortI_any (w : World) (g n c : Nat) (l : List Int) (h : Own w 2 eI64 (.slice (some ⟨g, 0, none⟩) n c) l) (hn : n = l.length) (hm : n ≤ 1000000) :
    Calls Tryz.prog 74 #[.slice (some ⟨g, 0, none⟩) n c] w fun e w' => e = .returned (.tuple #[]) ∧ Own w' 2 eI64 (.slice (some ⟨g, 0, none⟩) n c) (srtI l) ∧ Chg (fun x => x = g) w w' := by
  have hcon := AnyM.slices_Sort_int Tryz.sortI g 0 c l w h.holds1 (h.lt rfl) (by omega)
  rw [← hn] at hcon
  refine hcon.mono ?_
  rintro e w' ⟨rfl, m, os, rfl⟩
  exact ⟨rfl, h.sorted1 hn _ (by simp [List.length_mergeSort]) m os⟩
end Go.Proofs.YtameidoaenoppaaGreatDoor
