/- Marks of ranges over functions that a loop has left: they are shut one by one when the function returns; no condition but that each lies there, and once. -/
import Derived.Test.YtameidoaenoppaaGreatDoorSv
namespace Go.Proofs.YtameidoaenoppaaGreatDoor
open Go.RowKit Go.Shelf

def mark (r : Nat) : Deferred := { target := .collected r, args := #[] }
/-- Each mark's block waits, and lies at B or behind. -/
structure Marks (w : World) (B : Nat) (ds : List Deferred) : Prop where
  at_ : ∀ d ∈ ds, ∃ r, d = mark r ∧ B ≤ r ∧ w.heap[r]? = some (.deferred (some []))
  nodup : ds.Nodup
/-- What shutting marks leaves. -/
structure ShutW (B : Nat) (w w' : World) : Prop where
  chg : Chg (fun g => B ≤ g) w w'
  kp : KpI NoF w w'
theorem ShutW.refl (B : Nat) (w : World) : ShutW B w w := ⟨Chg.refl _ w, KpI.refl _ w⟩
theorem ShutW.trans {B : Nat} {a b c : World} (h : ShutW B a b) (k : ShutW B b c) : ShutW B a c := ⟨h.chg.then k.chg, h.kp.trans k.kp⟩
theorem putObj_chg' (W : World) (l : Nat) (o : Obj) : Chg (fun k => k = l) W (W.putObj l o) := (chg_grown (grownBy_putObj' W l o)).mono fun _ _ h => (by cases h; rfl)
theorem ShutW.one {B : Nat} {w : World} {r : Nat} (hB : B ≤ r) (hr : w.heap[r]? = some (.deferred (some []))) : ShutW B w (w.putObj r (.deferred none)) :=
  ⟨(putObj_chg' w r _).mono (fun _ _ h => h ▸ hB), KpI.of_chg (putObj_chg' w r _) (fun _ hk => .inr ⟨_, hk ▸ hr, rfl⟩)⟩
theorem Marks.nil (w : World) (B : Nat) : Marks w B [] := ⟨fun _ h => (by cases h), List.nodup_nil⟩
theorem Marks.frame {w w' : World} {B : Nat} {ds : List Deferred} (h : Marks w B ds) (hk : ∀ r, B ≤ r → w.heap[r]? = some (.deferred (some [])) → w'.heap[r]? = some (.deferred (some []))) : Marks w' B ds :=
  ⟨fun d hd => by
    obtain ⟨r, e, hB, hr⟩ := h.at_ d hd
    exact ⟨r, e, hB, hk r hB hr⟩, h.nodup⟩
theorem Marks.cons {w : World} {B D : Nat} {ds : List Deferred} (h : Marks w B ds) (hB : B ≤ D) (hD : w.heap[D]? = some (.deferred (some []))) (hn : ∀ r, mark r ∈ ds → r ≠ D) : Marks w B (mark D :: ds) :=
  ⟨fun d hd => by
    rcases List.mem_cons.1 hd with rfl | hd
    · exact ⟨D, rfl, hB, hD⟩
    · exact h.at_ d hd, List.nodup_cons.2 ⟨fun hm => hn D hm rfl, h.nodup⟩⟩
theorem mark_inj {a b : Nat} (h : mark a = mark b) : a = b := by unfold mark at h; injection h with h1; injection h1
theorem leaves_marks {P : Program} {F : Fence} {n : Nat} {fn : Func} {tmps : Array Value} {R : Ending → World → Prop} {B : Nat} : ∀ (ds : List Deferred) (w : World), Marks w B ds →
    (∀ w', ShutW B w w' → LeavesInM F n P fn tmps R [] .returning w') → LeavesInM F n P fn tmps R ds .returning w
  | [], w, _, h => h w (ShutW.refl B w)
  | d :: ds, w, hm, h => by
    obtain ⟨r, rfl, hB, hr⟩ := hm.at_ _ (List.mem_cons_self ..)
    obtain ⟨hnot, hnd⟩ := List.nodup_cons.1 hm.nodup
    refine ⟨by simp, .inl ⟨r, _, rfl, run_takeDeferred hr, leaves_marks (B := B) ds _ ⟨fun d' hd' => ?_, hnd⟩ (fun w' hw' => h w' ((ShutW.one hB hr).trans hw'))⟩⟩
    obtain ⟨r', e, hB', hr'⟩ := hm.at_ d' (List.mem_cons_of_mem _ hd')
    refine ⟨r', e, hB', (World.putObj_heap_other (fun e' => ?_)).trans hr'⟩
    exact hnot (by rw [← e', ← e]; exact hd')
end Go.Proofs.YtameidoaenoppaaGreatDoor
