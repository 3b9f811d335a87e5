/- slices.Sort of a row of int64 of one's own, nil too; the length at most a million. -/
import Derived.Test.YtameidoaenoppaaGreatDoorLO
import Derived.Test.YtameidoaenoppaaGreatDoorLOa
import Derived.Shelf.SortM.SortNone
namespace Go.Proofs.YtameidoaenoppaaGreatDoor
open Go.RowKit

theorem sortC : SortC := by
  intro w v l h hl
  obtain ⟨A, c, hv, _, _, h0, h1⟩ := h.shape
  subst hv
  cases A with
  | none =>
    obtain ⟨rfl, rfl⟩ := h0 rfl
    refine (AnyM.slices_Sort_int_none Tryz.sortI none 0 w).mono ?_
    rintro e w' ⟨rfl, rfl⟩
    exact ⟨rfl, by simpa using h, Chg.refl _ _⟩
  | some a =>
    obtain ⟨g, rfl⟩ := h1 a rfl
    refine (sortI_any w g l.length c l h rfl hl).mono ?_
    rintro e w' ⟨rfl, h2, h3⟩
    exact ⟨rfl, h2, h3.mono fun k _ e => by rw [e]; rfl⟩
end Go.Proofs.YtameidoaenoppaaGreatDoor
