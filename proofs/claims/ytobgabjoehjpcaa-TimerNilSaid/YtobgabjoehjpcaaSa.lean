/- slices.SortFunc over ahead: a row of entries sorted, in place; the length at most a million. -/
import Derived.Test.YtobgabjoehjpcaaSe
import Derived.Test.YtobgabjoehjpcaaMkCopy
import Derived.Test.YtobgabjoehjpcaaSm
namespace Go.Proofs.Ytobgabjoehjpcaa
open Go.RowKit

instance : Inhabited Ent := ⟨⟨0, 0, 0⟩⟩
theorem ltOf_ahead (x y : Ent) : ltOf aheadV x y = lessB x y := rfl
theorem swoE : Go.Sort.SWO (ltOf aheadV) := ⟨fun x => by
    rw [ltOf_ahead, not_less]; exact le'_refl x, fun x y z h1 h2 => by
    rw [ltOf_ahead, lessB_iff] at *; unfold ltE at *; omega, fun x y z h1 h2 => by
    rw [ltOf_ahead, not_less] at *; exact le'_trans h2 h1⟩
theorem cmpLaysE (blk off size : Nat) (w : World) : CmpLays Try.prog 43 #[] eEnt.f 3 aheadV blk off size w :=
  fun _ _ _ _ x y => (ahead_both _ x y).mono fun _ _ h => h
theorem isAgg60' : ∀ w, (isAgg 60).run Try.prog w = .ok true w := Try.isAgg60
theorem sizeOf60' : ∀ w, (Go.sizeOf 60).run Try.prog w = .ok 3 w := Try.sizeOf60
theorem enters43 : ∀ args w, (callFunc 43 args).run Try.prog w = .ok (.enter 43 args) w := enters_of Try.func43 (by kernel_rfl) rfl
theorem sort_any (w : World) (g n c : Nat) (l : List Ent) (h : Own w 60 eEnt (.slice (some ⟨g, 0, none⟩) n c) l) (hn : n = l.length) (hm : n ≤ 1000000) :
    Calls Try.prog 42 #[.slice (some ⟨g, 0, none⟩) n c, .func (.func 43) #[] #[]] w fun e w' => e = .returned (.tuple #[]) ∧ ∃ l', l'.Perm l ∧ l'.Pairwise le' ∧ Own w' 60 eEnt (.slice (some ⟨g, 0, none⟩) n c) l' ∧ Chg (fun x => x = g) w w' := by
  have hcon := AnyQ.slices_SortFunc Try.sortE 3 isAgg60' sizeOf60' eEnt.f (fun _ => rfl) eEnt.one aheadV swoE 43 #[] g 0 c l.toArray w enters43 (cmpLaysE g 0 _ w) h.holds (h.lt rfl) (by simp; omega)
  rw [List.size_toArray, ← hn] at hcon
  refine hcon.mono ?_
  rintro e w' ⟨rfl, d', m, os, ⟨hs, _, hp⟩, hso, rfl⟩
  have hd : d'.size = l.length := by simpa using hs
  obtain ⟨g1, g2⟩ := h.sorted hn d' hd m os
  refine ⟨rfl, d'.toList, ?_, ?_, g1, g2⟩
  · rw [hn, show l.length = d'.size from hd.symm, Array.extract_size] at hp
    have e1 : l.toArray.extract 0 d'.size = l.toArray := by rw [hd, ← List.size_toArray, Array.extract_size]
    rw [e1] at hp
    exact hp
  · rw [List.pairwise_iff_getElem]
    intro i j hi hj hij
    have h1 := hso i j (Nat.zero_le _) hij (by rw [hn, ← hd]; simpa using hj)
    rw [getElem!_pos d' i (by simpa using hi), getElem!_pos d' j (by simpa using hj), ltOf_ahead, not_less] at h1
    simpa using h1
end Go.Proofs.Ytobgabjoehjpcaa
