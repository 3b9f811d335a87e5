/- slices.Sort of a row of strings of one's own, nil too; the length at most a million. -/
import Derived.Test.YtmkfpaohlmejkaaDoorSh
import Derived.Test.YtmkfpaohlmejkaaDoorRa
import Derived.Shelf.SortM.Plain
import Derived.Shelf.SortM.SortNone
namespace Go.Proofs.YtmkfpaohlmejkaaDoor
open Go.RowKit

def sL (s : ByteArray) : List UInt8 := s.data.toList
theorem enc_sL (s : ByteArray) : encStr (sL s) = .string s := by
  unfold sL encStr
  rfl
theorem Own.holdsS {w : World} {e : TypeId} {g n c : Nat} {l : List ByteArray} (h : Own w e eStr (.slice (some ⟨g, 0, none⟩) n c) l) : Go.Sort.Holds encStr w g 0 (l.map sL).toArray := by
  intro j hj
  have hj' : j < l.length := by simpa using hj
  refine ⟨?_, h.frozen _⟩
  have h1 := h.elem j 0 hj' (by decide)
  have e1 : j * eStr.k + 0 = j := Nat.mul_one j
  rw [e1] at h1
  rw [Nat.zero_add, h1, getElem!_pos _ j (by simpa using hj')]
  simp [eStr, enc_sL]
theorem Own.sortedS {w : World} {e : TypeId} {g n c : Nat} {l : List ByteArray} (h : Own w e eStr (.slice (some ⟨g, 0, none⟩) n c) l) (hn : n = l.length) (l' : List ByteArray) (hd : l'.length = l.length) (m : Nat) (os : Array Obj) :
    Own (Go.Sort.grow (Go.Sort.putRow encStr (Go.Sort.ahead w m) g 0 (l'.map sL).toArray) os) e eStr (.slice (some ⟨g, 0, none⟩) n c) l' ∧ Chg (fun x => x = g) w (Go.Sort.grow (Go.Sort.putRow encStr (Go.Sort.ahead w m) g 0 (l'.map sL).toArray) os) := by
  subst hn
  have hlt : g < w.heap.size := h.lt rfl
  rcases h.row.2 with ⟨h0, _⟩ | ⟨g', cap, cur, h0, _, hg, hc, hm, hs, ht⟩
  · cases h0
  cases h0
  have hsz : (Go.Sort.putRow encStr (Go.Sort.ahead w m) g 0 (l'.map sL).toArray).heap.size = w.heap.size := by simp [Go.Sort.putRow, Go.Sort.mapBlock, Go.Sort.ahead]
  have hblk : (Go.Sort.putRow encStr (Go.Sort.ahead w m) g 0 (l'.map sL).toArray).heap[g]? = some (.cells (Go.Sort.putCells encStr 0 (l'.map sL).toArray cur) e (0, 0)) := by
    simp [Go.Sort.putRow, Go.Sort.mapBlock, Go.Sort.ahead, Array.getElem?_modify, hg, Go.Sort.onCells]
  have hk : eStr.k = 1 := rfl
  have hflat : eStr.flat l' = l'.map Value.string := (List.map_eq_flatMap).symm
  refine ⟨⟨by rw [eStr.flat_length], .inr ⟨g, c, Go.Sort.putCells encStr 0 (l'.map sL).toArray cur, by simp [hd], Nat.zero_le _, ?_, by simpa [hd] using hc, hm, by simpa [Go.Sort.putCells] using hs, ?_⟩⟩, ?_⟩
  · unfold Go.Sort.grow
    simp only
    rw [Array.getElem?_append_left (by rw [hsz]; exact hlt)]
    exact hblk
  · have hcs : l.length ≤ cur.size := by rw [hs, hk, Nat.mul_one]; exact hc
    rw [hflat]
    apply List.ext_getElem?
    intro j
    rw [hd, hk, Nat.mul_one, List.getElem?_take, List.getElem?_map]
    by_cases hj : j < l.length
    · rw [if_pos hj]
      have hj2 : j < l'.length := by omega
      have hj3 : j < cur.size := by omega
      simp [Go.Sort.putCells, hj2, hj3, enc_sL]
    · rw [if_neg hj, List.getElem?_eq_none_iff.2 (by omega)]; rfl
  · refine ⟨rfl, rfl, rfl, ?_, fun k hk hne => ?_⟩
    · unfold Go.Sort.grow
      simp only [Array.size_append]
      omega
    · unfold Go.Sort.grow
      simp only
      rw [Array.getElem?_append_left (by rw [hsz]; exact hk)]
      simp [Go.Sort.putRow, Go.Sort.mapBlock, Go.Sort.ahead, Array.getElem?_modify, Ne.symm hne]
/-- The names of entries, in order. -/
def nms (l : List En) : List ByteArray := l.map En.n
theorem mk_sL (s : ByteArray) : (⟨(sL s).toArray⟩ : ByteArray) = s := by unfold sL; rfl
/-- What slices.Sort of a row of one's own does, where its rising order is known. -/
theorem sortS_any (w : World) (v : Value) (l : List ByteArray) (es : List En) (h : Own w 9 eStr v l) (hl : l.length ≤ 1000000) (hp : l.Perm (nms es)) (hr : es.Pairwise (fun x y => ltS x.n y.n)) :
    Calls Tryd.prog 31 #[v] w fun e w' => e = .returned (.tuple #[]) ∧ Own w' 9 eStr v (nms es) ∧ Chg (fun x => v.ownBlock = some x) w w' := by
  obtain ⟨A, c, hv, _, _, h0, h1⟩ := h.shape
  subst hv
  cases A with
  | none =>
    obtain ⟨rfl, rfl⟩ := h0 rfl
    have e : nms es = [] := List.eq_nil_of_length_eq_zero (by rw [← hp.length_eq]; rfl)
    refine (AnyM.slices_Sort_string_none Tryd.sortS none 0 w).mono ?_
    rintro e w' ⟨rfl, rfl⟩
    exact ⟨rfl, by rw [‹nms es = []›]; exact h, Chg.refl _ _⟩
  | some a =>
    obtain ⟨g, rfl⟩ := h1 a rfl
    have hcon := AnyM.slices_Sort_string Tryd.sortS g 0 c (l.map sL) w h.holdsS (h.lt rfl) (by rw [List.length_map]; omega)
    rw [List.length_map] at hcon
    have hms : ((l.map sL).mergeSort fun x y => decide (x ≤ y)) = (nms es).map sL := by
      have p1 := List.mergeSort_perm (l.map sL) (fun x y => decide (x ≤ y))
      have s1 : ((l.map sL).mergeSort fun x y => decide (x ≤ y)).Pairwise (fun x y => x ≤ y) := by
        have := List.pairwise_mergeSort (le := fun x y : List UInt8 => decide (x ≤ y)) (fun a b c h1 h2 => by simp only [decide_eq_true_eq] at h1 h2 ⊢; exact List.le_trans h1 h2) (fun a b => by simp only [Bool.or_eq_true, decide_eq_true_eq]; exact List.le_total a b) (l.map sL)
        exact this.imp (fun h => by simpa using h)
      have s2 : ((nms es).map sL).Pairwise (fun x y => x ≤ y) := by
        unfold nms
        rw [List.map_map, List.pairwise_map]
        exact hr.imp (fun {a b} h => List.le_of_lt h)
      exact (p1.trans (hp.map sL)).eq_of_pairwise (fun a b _ _ h3 h4 => List.le_antisymm h3 h4) s1 s2
    refine hcon.mono ?_
    rintro e w' ⟨rfl, m, os, rfl⟩
    rw [hms]
    obtain ⟨q1, q2⟩ := h.sortedS rfl (nms es) hp.length_eq.symm m os
    exact ⟨rfl, q1, q2.mono fun k _ e => by rw [e]; rfl⟩
end Go.Proofs.YtmkfpaohlmejkaaDoor
