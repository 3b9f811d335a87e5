/- make([]T, n) and copy(new, old) where an element has several cells, as run equations; and a row that slices.SortFunc has sorted; bounds stand in each statement. -/
import Derived.Test.YtobgabjoehjpcaaLib
import Derived.Shelf.SlSortCmp.WholeK
namespace Go.Proofs.Ytobgabjoehjpcaa
open Go.RowKit

section
variable {α : Type} {P : Program} {w : World} {t e : TypeId} {E : El α} {by_ : Nat} {l : List α}
theorem run_makek (hT : SlT P t e E by_) (w : World) (n : Nat) (hb : by_ * n ≤ 281474976710656) (h63 : n ≤ maxLen) :
    ∃ cur w', (Instr.makeSlice t (.int .i64 (n : Int)) (.int .i64 (n : Int))).run P w = .ok (.slice (some ⟨w.heap.size, 0, none⟩) n n) w' ∧ w'.heap[w.heap.size]? = some (.cells cur e (0, 0)) ∧ cur.size = n * E.k ∧ Below w.heap.size w w' := by
  obtain ⟨hu, i, z, hi, hz, hsz, hby, hzs⟩ := hT
  have h63' : (n : Int) ≤ 9223372036854775807 := by
    have h := h63
    simp [maxLen] at h
    omega
  have hb' : (i.bytes : Int) * (n : Int) ≤ 281474976710656 := by
    have h : ((i.bytes * n : Nat) : Int) ≤ 281474976710656 := by rw [hby]; omega
    rwa [Int.natCast_mul] at h
  have hr := run_make (P := P) w t e i z hu hi hz .i64 .i64 n n (by omega) (Int.le_refl _) hb' h63'
  simp only [Int.toNat_natCast] at hr
  exact ⟨_, _, hr, heap_alloc_new w _, by rw [size_madeCells, hsz], (Below.refl _ _).alloc (Nat.le_refl _) _⟩
theorem run_copyk {ty sT : TypeId} (hT : SlT P t e E by_) {g n c : Nat} {cur : Array Value} {A : Option Addr} (hn : n = l.length) (hs : Src w E A c l)
    (hg : w.heap[g]? = some (.cells cur e (0, 0))) (hc : cur.size = n * E.k) (hm : n ≤ maxLen) :
    ∃ w', (Builtin.copy_ #[t, sT] ty #[.slice (some ⟨g, 0, none⟩) n n, .slice A n c]).run P w = .ok (goInt n) w' ∧ Own w' e E (.slice (some ⟨g, 0, none⟩) n n) l ∧ Chg (fun x => x = g) w w' := by
  subst hn
  obtain ⟨hu, i, z, hi, hz, hsz, hby, hzs⟩ := hT
  have hlen := E.flat_length l
  have hst := run_storeCells_at P g 0 e (E.flat l) 0 cur w hg (by rw [hlen, hc]; omega) (E.flat_one_cell l)
  have hnew : (List.take (0 + 0) cur.toList ++ E.flat l ++ List.drop (0 + 0 + (E.flat l).length) cur.toList) = E.flat l := by
    rw [hlen, Nat.zero_add, Nat.zero_add, List.take_zero, List.nil_append, List.drop_of_length_le (by rw [Array.length_toList, hc]; exact Nat.le_refl _), List.append_nil]
  rw [hnew] at hst
  have hr : (Builtin.copy_ #[t, sT] ty #[.slice (some ⟨g, 0, none⟩) l.length l.length, .slice A l.length c]).run P w = .ok (goInt l.length) (w.setRow g (E.flat l).toArray) := by
    cases A with
    | none =>
      obtain ⟨rfl, rfl⟩ := hs.none rfl
      simp only [El.flat, List.flatMap_nil] at hst ⊢
      simp [Builtin.copy_, run_underlying hu, Builtin.lenOf, Builtin.firstCells, sizeOf, typeInfo, hi, hst]
    | some ad =>
      have hf := run_firstCells_some (P := P) w i.size l.length ad l.length c (E.flat l) (by rw [hsz]; exact hlen) (hs.cell ad rfl)
      simp [Builtin.copy_, run_underlying hu, Builtin.lenOf, sizeOf, typeInfo, hi, hf, hst]
  refine ⟨_, hr, ⟨hlen, .inr ⟨g, l.length, _, rfl, Nat.zero_le _, setRow_heap w g cur _ e _ hg, Nat.le_refl _, hm, by simp [hlen], ?_⟩⟩, ⟨rfl, rfl, rfl, by simp [World.setRow], fun k _ hk => setRow_other w g k _ hk⟩⟩
  simp only [List.toList_toArray]
  rw [← hlen, List.take_length]
end

/-- A row of one's own is held, as the sort wants it. -/
theorem Own.holds {α : Type} [Inhabited α] {w : World} {e : TypeId} {E : El α} {g n c : Nat} {l : List α} (h : Own w e E (.slice (some ⟨g, 0, none⟩) n c) l) : Go.Sort.HoldsK E.f E.k w g 0 l.toArray := by
  intro j hj
  rw [Go.Sort.size_flatK] at hj
  have hj' : j < l.length * E.k := by simpa using hj
  refine ⟨?_, h.frozen _⟩
  have hd : j / E.k < l.length := (Nat.div_lt_iff_lt_mul E.pos).2 hj'
  have h1 := h.elem (j / E.k) (j % E.k) hd (Nat.mod_lt _ E.pos)
  rw [Nat.div_add_mod'] at h1
  have hlt : j % E.k < (E.f l[j / E.k]).length := by rw [E.len]; exact Nat.mod_lt _ E.pos
  rw [Nat.zero_add, h1, Go.Sort.get_flatK _ _ _ _ (by simpa using hj'), List.getElem?_eq_getElem hlt]
  have e1 : (l.toArray)[j / E.k]! = l[j / E.k] := by rw [getElem!_pos _ _ (by simpa using hd)]; simp
  rw [e1, getElem!_pos (E.f l[j / E.k]) (j % E.k) hlt]
  rfl
/-- What the sort leaves. -/
theorem Own.sorted {α : Type} [Inhabited α] {w : World} {e : TypeId} {E : El α} {g n c : Nat} {l : List α} (h : Own w e E (.slice (some ⟨g, 0, none⟩) n c) l) (hn : n = l.length) (d' : Array α) (hd : d'.size = l.length) (m : Nat) (os : Array Obj) :
    Own (Go.Proofs.sortWorldK E.f E.k w g 0 m d' os) e E (.slice (some ⟨g, 0, none⟩) n c) d'.toList ∧ Chg (fun x => x = g) w (Go.Proofs.sortWorldK E.f E.k w g 0 m d' os) := by
  subst hn
  have hlt : g < w.heap.size := h.lt rfl
  have hh := Go.Sort.holdsK_putRowK E.f E.k (Go.Sort.ahead w m) g 0 l.toArray d' (Go.Sort.holdsK_ahead E.f E.k w m g 0 _ h.holds) (by simpa using hd)
  rcases h.row.2 with ⟨h0, _⟩ | ⟨g', cap, cur, h0, _, hg, hc, hm, hs, ht⟩
  · cases h0
  cases h0
  have hsz : (Go.Sort.putRowK E.f E.k (Go.Sort.ahead w m) g 0 d').heap.size = w.heap.size := by simp [Go.Sort.putRowK, Go.Sort.putRow, Go.Sort.mapBlock, Go.Sort.ahead]
  have hblk : (Go.Sort.putRowK E.f E.k (Go.Sort.ahead w m) g 0 d').heap[g]? = some (.cells (Go.Sort.putCells id 0 (Go.Sort.flatK E.f E.k d') cur) e (0, 0)) := by
    simp [Go.Sort.putRowK, Go.Sort.putRow, Go.Sort.mapBlock, Go.Sort.ahead, Array.getElem?_modify, hg, Go.Sort.onCells]
  have hfl : (E.flat d'.toList).length = l.length * E.k := by rw [E.flat_length, Array.length_toList, hd]
  refine ⟨⟨by rw [E.flat_length], .inr ⟨g, c, Go.Sort.putCells id 0 (Go.Sort.flatK E.f E.k d') cur, by simp [hd], Nat.zero_le _, ?_, by simpa [hd] using hc, hm, by simpa [Go.Sort.putCells] using hs, ?_⟩⟩, ?_⟩
  · unfold Go.Proofs.sortWorldK Go.Sort.grow
    simp only
    rw [Array.getElem?_append_left (by rw [hsz]; exact hlt)]
    exact hblk
  · have hcs : l.length * E.k ≤ cur.size := by rw [hs]; exact Nat.mul_le_mul_right _ hc
    apply List.ext_getElem?
    intro j
    rw [Array.length_toList, hd, List.getElem?_take]
    by_cases hj : j < l.length * E.k
    · rw [if_pos hj]
      have h1 := (hh j (by rw [Go.Sort.size_flatK, hd]; exact hj)).1
      simp only [World.cell?, hblk] at h1
      rw [Nat.zero_add] at h1
      simp only [Option.isSome_none, Bool.false_eq_true, if_false] at h1
      rw [Array.getElem?_toList, h1, Go.Sort.get_flatK _ _ _ _ (by rw [hd]; exact hj)]
      have hdv : j / E.k < d'.toList.length := by rw [Array.length_toList, hd]; exact (Nat.div_lt_iff_lt_mul E.pos).2 hj
      have h2 := E.flat_get d'.toList (j / E.k) (j % E.k) hdv (Nat.mod_lt _ E.pos)
      rw [Nat.div_add_mod'] at h2
      have hlt2 : j % E.k < (E.f d'.toList[j / E.k]).length := by rw [E.len]; exact Nat.mod_lt _ E.pos
      rw [h2, List.getElem?_eq_getElem hlt2]
      have e1 : d'[j / E.k]! = d'.toList[j / E.k] := by rw [getElem!_pos _ _ (by simpa using hdv)]; simp
      rw [e1, getElem!_pos (E.f d'.toList[j / E.k]) (j % E.k) hlt2]
      rfl
    · rw [if_neg hj, List.getElem?_eq_none_iff.2 (by omega)]
  · refine ⟨rfl, rfl, rfl, ?_, fun k hk hne => ?_⟩
    · unfold Go.Proofs.sortWorldK Go.Sort.grow
      simp only [Array.size_append]
      omega
    · unfold Go.Proofs.sortWorldK Go.Sort.grow
      simp only
      rw [Array.getElem?_append_left (by rw [hsz]; exact hk)]
      simp [Go.Sort.putRowK, Go.Sort.putRow, Go.Sort.mapBlock, Go.Sort.ahead, Array.getElem?_modify, Ne.symm hne]
end Go.Proofs.Ytobgabjoehjpcaa
