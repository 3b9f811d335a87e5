/- Opens an argument that is a slice of structs, or of one-cell values, to what a walk is told of it; for every program. -/
import Derived.Test.YtameidoaenoppaaGreatDoorLib
import Derived.Deep.Slices
import Derived.Deep.Fields
import Derived.ChangeSame
import Derived.SizedLaws
namespace Go.Proofs.YtameidoaenoppaaGreatDoor
open Go.ChangeShapes Go.WideShapes Go.Deep Go.RowKit
section
variable {H : Type} {enc : TypeId × Value → H} {P : Program} {w : World} {base : Nat} {spare : Nat → Bool} {held : Bool}

theorem src_list {α : Type} (E : El α) (Pr : α → Prop) (ad : Addr) (len c : Nat) (h : ∀ i, i < len → ∃ y, Pr y ∧ ∀ j u, (E.f y)[j]? = some u → w.cell? (ad.add (i * E.k + j)) = some u) :
    ∃ l : List α, l.length = len ∧ (∀ y ∈ l, Pr y) ∧ Src w E (some ad) c l := by
  induction len with
  | zero => exact ⟨[], rfl, fun y h => by simp at h, fun a ha j u hu => by simp [El.flat] at hu, fun h => by cases h⟩
  | succ n ih =>
    obtain ⟨l, hl, hp, hs⟩ := ih fun i hi => h i (by omega)
    obtain ⟨y, hy, hc⟩ := h n (by omega)
    refine ⟨l ++ [y], by simp [hl], fun z hz => ?_, fun a ha j u hu => ?_, fun h => by cases h⟩
    · rcases List.mem_append.1 hz with h1 | h1
      · exact hp z h1
      · simp at h1; exact h1 ▸ hy
    · cases ha
      rw [E.flat_append, E.flat_one] at hu
      have hfl : (E.flat l).length = n * E.k := by rw [E.flat_length, hl]
      by_cases hj : j < (E.flat l).length
      · rw [List.getElem?_append_left hj] at hu
        exact hs.cell ad rfl j u hu
      · rw [List.getElem?_append_right (by omega)] at hu
        have := hc _ u hu
        rw [hfl] at this hj
        rw [show n * E.k + (j - n * E.k) = j by omega] at this
        exact this

/-- A slice whose elements are structs of one-cell fields. hR: what one element is, from its cells and what each reads as. -/
theorem src_structs {α : Type} (E : El α) (Pr : α → Prop) {t e : TypeId} {fs : Array Field} {fuel : Nat} {A : Option Addr} {len cap : Nat} {x : DataW H × List MemPlace} (ht : P.underlying t = some (.slice e)) (he : P.underlying e = some (.struct fs))
    (hone : oneCellFields P fs = true) (hC : P.cellsOf e = fs.size) (hk : E.k = fs.size)
    (hR : ∀ at_ : Nat → Value → Prop, (∀ (j : Nat) (f : Field), fs[j]? = some f → ∃ (v : Value) (n : Nat) (y : DataW H × List MemPlace), at_ j v ∧ DataW.trod enc P w base spare held n f.type [v] = some y) → ∃ y : α, Pr y ∧ ∀ j u, (E.f y)[j]? = some u → at_ j u)
    (h : DataW.trod enc P w base spare held fuel t [.slice A len cap] = some x) :
    ∃ l : List α, l.length = len ∧ (∀ y ∈ l, Pr y) ∧ Src w E A cap l ∧ len ≤ maxLen ∧ (x.1 = .nil ∧ len = 0 ∨ ∃ el sp, x.1 = .slice el sp ∧ el.length = len) := by
  rcases open_slice ht h with ⟨hcs, hx⟩ | ⟨a, len', cap', m, n, D, Pl, hcs, hb, hl, hm, hmm, hx, hi⟩
  · simp only [List.cons.injEq, Value.slice.injEq, and_true] at hcs
    obtain ⟨rfl, rfl, rfl⟩ := hcs
    exact ⟨[], rfl, fun y h => by simp at h, ⟨(fun _ h => by cases h), fun _ => ⟨rfl, rfl⟩⟩, Nat.zero_le _, .inl ⟨by rw [hx], rfl⟩⟩
  · simp only [List.cons.injEq, Value.slice.injEq, and_true] at hcs
    obtain ⟨rfl, rfl, rfl⟩ := hcs
    have hlm : len ≤ m := by rw [hmm]; split <;> omega
    have key : ∀ i, i < len → ∃ y, Pr y ∧ ∀ j u, (E.f y)[j]? = some u → w.cell? (a.add (i * E.k + j)) = some u := by
      intro i hil
      obtain ⟨cs', hc, ht'⟩ := hi i (by omega)
      rw [hC] at hc
      obtain ⟨ys, n', hn', hy, hlen, hyl, hf⟩ := DataW.trod_struct he ht'
      obtain ⟨_, hcl, hat⟩ := World.cells?_some hc
      rw [hk]
      refine hR (fun j v => w.cell? (a.add (i * fs.size + j)) = some v) fun j f hj => ?_
      obtain ⟨ho, hk1⟩ := hone_of hone j f hj
      have hjl : j < fs.size := (Array.getElem?_eq_some_iff.1 hj).1
      have h1 := hf j f hj
      rw [ho, hk1] at h1
      have h2 : (cs'.drop j).take 1 = [cs'[j]'(by omega)] := by
        rw [List.drop_eq_getElem_cons (by omega)]
        rfl
      rw [h2] at h1
      refine ⟨cs'[j]'(by omega), n', ys[j]'(by omega), ?_, h1.trans (List.getElem?_eq_getElem (by omega))⟩
      rw [← Go.Deep.add_add, hat j hjl, List.getElem?_eq_getElem (by omega)]
    obtain ⟨l, h1, h2, h3⟩ := src_list E Pr a len cap key
    exact ⟨l, h1, h2, h3, by omega, .inr ⟨_, _, by rw [hx], by simp⟩⟩

/-- A slice of one-cell values. -/
theorem src_ones {α : Type} (E : El α) (Pr : α → Prop) {t e : TypeId} {fuel : Nat} {A : Option Addr} {len cap : Nat} {x : DataW H × List MemPlace} (ht : P.underlying t = some (.slice e)) (hC : P.cellsOf e = 1) (hk : E.k = 1)
    (hR : ∀ (v : Value) (n : Nat) (y : DataW H × List MemPlace), DataW.trod enc P w base spare held n e [v] = some y → ∃ y : α, Pr y ∧ E.f y = [v])
    (h : DataW.trod enc P w base spare held fuel t [.slice A len cap] = some x) :
    ∃ l : List α, l.length = len ∧ (∀ y ∈ l, Pr y) ∧ Src w E A cap l ∧ len ≤ maxLen ∧ (x.1 = .nil ∧ len = 0 ∨ ∃ el sp, x.1 = .slice el sp ∧ el.length = len) := by
  rcases open_slice ht h with ⟨hcs, hx⟩ | ⟨a, len', cap', m, n, D, Pl, hcs, hb, hl, hm, hmm, hx, hi⟩
  · simp only [List.cons.injEq, Value.slice.injEq, and_true] at hcs
    obtain ⟨rfl, rfl, rfl⟩ := hcs
    exact ⟨[], rfl, fun y h => by simp at h, ⟨(fun _ h => by cases h), fun _ => ⟨rfl, rfl⟩⟩, Nat.zero_le _, .inl ⟨by rw [hx], rfl⟩⟩
  · simp only [List.cons.injEq, Value.slice.injEq, and_true] at hcs
    obtain ⟨rfl, rfl, rfl⟩ := hcs
    have hlm : len ≤ m := by rw [hmm]; split <;> omega
    have key : ∀ i, i < len → ∃ y, Pr y ∧ ∀ j u, (E.f y)[j]? = some u → w.cell? (a.add (i * E.k + j)) = some u := by
      intro i hil
      obtain ⟨cs', hc, ht'⟩ := hi i (by omega)
      rw [hC] at hc
      obtain ⟨_, hcl, hat⟩ := World.cells?_some hc
      match cs', hcl with
      | [v], _ =>
        obtain ⟨y, hp, hy⟩ := hR v _ _ ht'
        refine ⟨y, hp, fun j u hu => ?_⟩
        rw [hy] at hu
        have hj : j = 0 := by
          have := (List.getElem?_eq_some_iff.1 hu).1
          simpa using this
        subst hj
        have h0 := hat 0 (by omega)
        simp at hu h0
        subst hu
        rw [hk, Nat.mul_one, Nat.add_zero]
        have e0 : (a.add i).add 0 = a.add i := by simp [Addr.add]
        first | exact h0 | (rw [← e0]; exact h0)
    obtain ⟨l, h1, h2, h3⟩ := src_list E Pr a len cap key
    exact ⟨l, h1, h2, h3, by omega, .inr ⟨_, _, by rw [hx], by simp⟩⟩

/-- The form's reach, of a slice that was read. -/
theorem reach_len {ts : List TypeId} {ds : List (DataW H)} {t e : TypeId} {d : DataW H} {len j : Nat} (hsz : (DataW.weightsEach P ts ds).all (· ≤ reachBytes) = true) (ht : ts[j]? = some t) (hd : ds[j]? = some d) (hu : P.underlying t = some (.slice e))
    (hx : d = .nil ∧ len = 0 ∨ ∃ el sp, d = .slice el sp ∧ el.length = len) : len * P.bytesOf e ≤ reachBytes := by
  rcases hx with ⟨_, rfl⟩ | ⟨el, sp, rfl, rfl⟩
  · simp
  · have := sized_slice hsz ht hd hu
    exact Nat.le_trans (Nat.mul_le_mul_right _ (Nat.le_add_right _ _)) this
end
end Go.Proofs.YtameidoaenoppaaGreatDoor
