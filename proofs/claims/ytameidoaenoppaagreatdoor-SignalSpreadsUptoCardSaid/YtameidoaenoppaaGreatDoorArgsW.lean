/- As Args, with the reach of nested data; for every program. -/
import Derived.Test.YtameidoaenoppaaGreatDoorArgs
namespace Go.Proofs.YtameidoaenoppaaGreatDoor
open Go.ChangeShapes Go.WideShapes Go.Deep Go.RowKit
theorem weights_mem_all {H : Type} {P : Program} {e : TypeId} {l : List (DataW H)} {d : DataW H} (hd : d ∈ l) : ∀ z ∈ d.weights P e, z ∈ DataW.weightsAll P e l := by
  induction l with
  | nil => cases hd
  | cons a l ih =>
    intro z hz
    simp only [DataW.weightsAll, List.mem_append]
    rcases List.mem_cons.1 hd with rfl | h
    · exact .inl hz
    · exact .inr (ih h z hz)
section
variable {H : Type} {enc : TypeId × Value → H} {P : Program} {w : World} {base : Nat} {spare : Nat → Bool} {held : Bool}
/-- As src_structs, and each field's data is within the form's reach. -/
theorem src_structs_w {α : Type} (E : El α) (Pr : α → Prop) {t e : TypeId} {fs : Array Field} {fuel : Nat} {A : Option Addr} {len cap : Nat} {x : DataW H × List MemPlace} (ht : P.underlying t = some (.slice e)) (he : P.underlying e = some (.struct fs))
    (hone : oneCellFields P fs = true) (hC : P.cellsOf e = fs.size) (hk : E.k = fs.size)
    (hR : ∀ at_ : Nat → Value → Prop, (∀ (j : Nat) (f : Field), fs[j]? = some f → ∃ (v : Value) (n : Nat) (y : DataW H × List MemPlace), at_ j v ∧ DataW.trod enc P w base spare held n f.type [v] = some y ∧ ∀ z ∈ y.1.weights P f.type, z ≤ reachBytes) → ∃ y : α, Pr y ∧ ∀ j u, (E.f y)[j]? = some u → at_ j u)
    (hwt : ∀ z ∈ x.1.weights P t, z ≤ reachBytes) (h : DataW.trod enc P w base spare held fuel t [.slice A len cap] = some x) :
    ∃ l : List α, l.length = len ∧ (∀ y ∈ l, Pr y) ∧ Src w E A cap l ∧ len ≤ maxLen ∧ (x.1 = .nil ∧ len = 0 ∨ ∃ el sp, x.1 = .slice el sp ∧ el.length = len) := by
  rcases open_slice ht h with ⟨hcs, hx⟩ | ⟨a, len', cap', m, n, D, Pl, hcs, hb, hl, hm, hmm, hx, hi⟩
  · simp only [List.cons.injEq, Value.slice.injEq, and_true] at hcs
    obtain ⟨rfl, rfl, rfl⟩ := hcs
    exact ⟨[], rfl, fun y h => by simp at h, ⟨(fun _ h => by cases h), fun _ => ⟨rfl, rfl⟩⟩, Nat.zero_le _, .inl ⟨by rw [hx], rfl⟩⟩
  · simp only [List.cons.injEq, Value.slice.injEq, and_true] at hcs
    obtain ⟨rfl, rfl, rfl⟩ := hcs
    have hlm : len ≤ m := by rw [hmm]; split <;> omega
    have key : ∀ i, i < len → ∃ y, Pr y ∧ ∀ j u, (E.f y)[j]? = some u → w.cell? (a.add (i * E.k + j)) = some u := by
      intro i hil
      obtain ⟨cs', hc, ht'⟩ := hi i (by omega)
      rw [hC] at hc
      obtain ⟨ys, n', hn', hy, hlen, hyl, hf⟩ := DataW.trod_struct he ht'
      obtain ⟨_, hcl, hat⟩ := World.cells?_some hc
      rw [hk]
      refine hR (fun j v => w.cell? (a.add (i * fs.size + j)) = some v) fun j f hj => ?_
      obtain ⟨ho, hk1⟩ := hone_of hone j f hj
      have hjl : j < fs.size := (Array.getElem?_eq_some_iff.1 hj).1
      have h1 := hf j f hj
      rw [ho, hk1] at h1
      have h2 : (cs'.drop j).take 1 = [cs'[j]'(by omega)] := by
        rw [List.drop_eq_getElem_cons (by omega)]
        rfl
      rw [h2] at h1
      refine ⟨cs'[j]'(by omega), n', ys[j]'(by omega), ?_, h1.trans (List.getElem?_eq_getElem (by omega)), fun z hz => hwt z ?_⟩
      rotate_left
      · have hd : D i = .agg (ys.map (·.1)) := congrArg Prod.fst hy
        have hm1 : z ∈ (D i).weights P e := by
          rw [hd]
          simp only [DataW.weights, he]
          exact DataW.weights_mem_each (j := j) (by rw [List.getElem?_map, Array.getElem?_toList, hj]; rfl) (by rw [List.getElem?_map, List.getElem?_eq_getElem (by omega)]; rfl) z hz
        rw [hx]
        simp only [DataW.weights, ht]
        exact List.mem_cons_of_mem _ (List.mem_append_left _ (weights_mem_all (List.mem_map.2 ⟨i, List.mem_range.2 hil, rfl⟩) z hm1))
      rw [← Go.Deep.add_add, hat j hjl, List.getElem?_eq_getElem (by omega)]
    obtain ⟨l, h1, h2, h3⟩ := src_list E Pr a len cap key
    exact ⟨l, h1, h2, h3, by omega, .inr ⟨_, _, by rw [hx], by simp⟩⟩

end
end Go.Proofs.YtameidoaenoppaaGreatDoor
