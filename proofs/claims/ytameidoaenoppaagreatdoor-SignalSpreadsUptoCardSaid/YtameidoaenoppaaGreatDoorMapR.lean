/- More of a range over a map: how many keys have come, its record is no row; no condition. -/
import Derived.Test.YtameidoaenoppaaGreatDoorMapV
import Derived.RangeFuncNested
namespace Go.Proofs.YtameidoaenoppaaGreatDoor
open Go.RowKit

theorem nodup_len {α : Type} [DecidableEq α] {l m : List α} (h : l.Nodup) (hs : ∀ y ∈ l, y ∈ m) : l.length ≤ m.length := by
  induction l generalizing m with
  | nil => simp
  | cons x l ih =>
    obtain ⟨h1, h2⟩ := List.nodup_cons.1 h
    have hx := hs x (List.mem_cons_self ..)
    have := ih h2 (m := m.erase x) (fun y hy => (List.mem_erase_of_ne (fun e : y = x => h1 (by rw [← e]; exact hy))).2 (hs y (List.mem_cons_of_mem _ hy)))
    rw [List.length_erase_of_mem hx] at this
    have := List.length_pos_of_mem hx
    simp
    omega
/-- Several blocks laid one behind the other. -/
def allocN (w : World) : List Obj → World
  | [] => w
  | o :: os => allocN (w.alloc o) os
theorem allocN_size (w : World) (os : List Obj) : (allocN w os).heap.size = w.heap.size + os.length := by
  induction os generalizing w with
  | nil => rfl
  | cons o os ih => simp only [allocN, ih, World.size_alloc, List.length_cons]; omega
theorem allocN_below (w : World) (os : List Obj) : Below w.heap.size w (allocN w os) := by
  induction os generalizing w with
  | nil => exact Below.refl _ _
  | cons o os ih => exact ((Below.refl _ w).alloc (Nat.le_refl _) o).trans ((ih (w.alloc o)).mono (by simp))
theorem allocN_at (w : World) (os : List Obj) (i : Nat) (o : Obj) (h : os[i]? = some o) : (allocN w os).heap[w.heap.size + i]? = some o := by
  induction os generalizing w i with
  | nil => simp at h
  | cons o' os ih =>
    cases i with
    | zero =>
      simp only [List.getElem?_cons_zero, Option.some.injEq] at h
      subst h
      exact ((allocN_below (w.alloc o') os).block _ (by simp)).trans (blk_new w o')
    | succ i =>
      have := ih (w.alloc o') i (by simpa using h)
      rw [World.size_alloc] at this
      rw [show w.heap.size + (i + 1) = w.heap.size + 1 + i by omega]
      exact this
section
variable {κ : Type} [DecidableEq κ] {P : Program} {k : TypeId} {T : KeyT P k κ} {w : World} {b r : Nat} {es : List (κ × Value)} {seen : List κ}
theorem RangeV.mem (h : RangeV T w b r es seen) (x : κ) (hx : x ∈ seen) : x ∈ es.map (·.1) := by
  obtain ⟨u, hu⟩ := h.sub x hx
  exact List.mem_map.2 ⟨_, (look_some h.apart).1 hu, rfl⟩
theorem RangeV.lts (h : RangeV T w b r es seen) : b < w.heap.size ∧ r < w.heap.size := by
  obtain ⟨D, left, cnt, h1, _⟩ := h.rng
  exact ⟨h1.owns.lt, h1.lt⟩
theorem RangeV.left {w' : World} (h : RangeV T w b r es seen) {F : Nat → Prop} (hc : Chg F w w') (hb : ¬ F b) (hr : ¬ F r) : w'.rangeLeft b r = w.rangeLeft b r := by
  obtain ⟨h1, h2⟩ := h.lts
  unfold World.rangeLeft
  rw [hc.block b h1 hb, hc.block r h2 hr]
theorem RangeV.len (h : RangeV T w b r es seen) : seen.length ≤ es.length := by
  have := nodup_len h.nodup h.mem
  simpa using this
theorem RangeV.recd (h : RangeV T w b r es seen) : ∃ o, w.heap[r]? = some o ∧ o.isCells = false := by
  obtain ⟨D, left, cnt, h1, _⟩ := h.rng
  obtain ⟨a, c, s, sn, c0, q1, q2, q3, q4, q5, q6⟩ := h1
  exact ⟨_, q5, rfl⟩
theorem RangeV.ne {α : Type} {e : TypeId} {E : El α} {v : Value} {l : List α} (h : RangeV T w b r es seen) (ho : Own w e E v l) : v.ownBlock ≠ some r := by
  intro e
  obtain ⟨cur, hcur⟩ := ho.blk' e
  obtain ⟨o, h1, h2⟩ := h.recd
  rw [hcur] at h1
  cases h1
  cases h2
end
end Go.Proofs.YtameidoaenoppaaGreatDoor
