/- What Swap of package timer does; no condition but bounds. -/
import Derived.Test.YtobgabjoehjpcaaC
namespace Go.Proofs.Ytobgabjoehjpcaa
open Go.RowKit

theorem Chg.setg {g : Nat} {a w : World} (h : Chg (fun x => x = g) a w) (o : Nat) (u : Value) : Chg (fun x => x = g) a (w.setCell ⟨g, o, none⟩ u) := h.set (p := ⟨g, o, none⟩) (.inl rfl) u
def swapL (l : List Ent) (i j : Nat) (a b : Ent) : List Ent := (l.set i b).set j a
theorem Own.setE {w : World} {g n c : Nat} {l : List Ent} (h : Own w 60 eEnt (.slice (some ⟨g, 0, none⟩) n c) l) (hl : n = l.length) (i : Nat) (hi : i < l.length) (b : Ent) :
    Own (((w.setCell ⟨g, i * 3, none⟩ (.int .i64 b.ref)).setCell ⟨g, i * 3 + 1, none⟩ (.int .i64 b.dl)).setCell ⟨g, i * 3 + 2, none⟩ (.int .i64 b.tn)) 60 eEnt (.slice (some ⟨g, 0, none⟩) n c) (l.set i b) := by
  have h1 := h.set hl i 0 ⟨b.ref, l[i].dl, l[i].tn⟩ (.int .i64 b.ref) hi (by decide) rfl
  have h2 := h1.set (by simpa using hl) i 1 ⟨b.ref, b.dl, l[i].tn⟩ (.int .i64 b.dl) (by simpa using hi) (by decide) (by simp [eEnt])
  have h3 := h2.set (by simpa using hl) i 2 b (.int .i64 b.tn) (by simpa using hi) (by decide) (by simp [eEnt])
  rw [List.set_set, List.set_set] at h3
  exact h3
set_option maxRecDepth 100000 in
set_option maxHeartbeats 1000000 in
theorem swap_ne (w : World) (g n c i j : Nat) (l : List Ent) (a b : Ent) (ho : Own w 60 eEnt (.slice (some ⟨g, 0, none⟩) n c) l) (hl : n = l.length) (hi : l[i]? = some a) (hj : l[j]? = some b) (hn : n ≤ 1000000) (hij : i ≠ j) :
    Calls Try.prog 86 #[.slice (some ⟨g, 0, none⟩) n c, .int .i64 i, .int .i64 j] w fun e w' => (∃ v, e = .returned v) ∧ Own w' 60 eEnt (.slice (some ⟨g, 0, none⟩) n c) (swapL l i j a b) ∧ Chg (fun x => x = g) w w' := by
  obtain ⟨a1, a2, a3⟩ := ho.ent i a hi
  obtain ⟨b1, b2, b3⟩ := ho.ent j b hj
  have hil := (List.getElem?_eq_some_iff.1 hi).1
  have hjl := (List.getElem?_eq_some_iff.1 hj).1
  have hi0 : (0 : Int) ≤ (i : Int) := by omega
  have hi1 : (i : Int) < (n : Int) := by omega
  have hj0 : (0 : Int) ≤ (j : Int) := by omega
  have hj1 : (j : Int) < (n : Int) := by omega
  have f1 := ho.frozen (i * 3)
  have f2 := ho.frozen (i * 3 + 1)
  have f3 := ho.frozen (i * 3 + 2)
  have f4 := ho.frozen (j * 3)
  have f5 := ho.frozen (j * 3 + 1)
  have f6 := ho.frozen (j * 3 + 2)
  have hgl := ho.lt (g := g) rfl
  have s1 := Kp.mk ((ho.setE hl i hil b).setE (by simpa using hl) j (by simpa using hjl) a)
  have s2 := Kp.mk ((ho.setE hl j hjl a).setE (by simpa using hl) i (by simpa using hil) b)
  have e00 : (i * 3 = j * 3) = False := by simp; omega
  have e01 : (i * 3 = j * 3 + 1) = False := by simp; omega
  have e02 : (i * 3 = j * 3 + 2) = False := by simp; omega
  have e10 : (i * 3 + 1 = j * 3) = False := by simp; omega
  have e11 : (i * 3 + 1 = j * 3 + 1) = False := by simp; omega
  have e12 : (i * 3 + 1 = j * 3 + 2) = False := by simp; omega
  have e20 : (i * 3 + 2 = j * 3) = False := by simp; omega
  have e21 : (i * 3 + 2 = j * 3 + 1) = False := by simp; omega
  have e22 : (i * 3 + 2 = j * 3 + 2) = False := by simp; omega
  have g00 : (j * 3 = i * 3) = False := by simp; omega
  have g01 : (j * 3 = i * 3 + 1) = False := by simp; omega
  have g02 : (j * 3 = i * 3 + 2) = False := by simp; omega
  have g10 : (j * 3 + 1 = i * 3) = False := by simp; omega
  have g11 : (j * 3 + 1 = i * 3 + 1) = False := by simp; omega
  have g12 : (j * 3 + 1 = i * 3 + 2) = False := by simp; omega
  have g20 : (j * 3 + 2 = i * 3) = False := by simp; omega
  have g21 : (j * 3 + 2 = i * 3 + 1) = False := by simp; omega
  have g22 : (j * 3 + 2 = i * 3 + 2) = False := by simp; omega
  have hc1 : Kp ((l.set j a).set i b = swapL l i j a b) := ⟨by unfold swapL; exact List.set_comm _ _ (Ne.symm hij)⟩
  have HGL := Kp.mk hgl
  clear ho hl hi hj hij
  go_enter Try.func86, Try.ntmps86
  go_region
  go_end0
  exact ⟨⟨_, rfl⟩, s1.out.drew, by repeat (with_reducible (first | refine Chg.setg ?_ _ _ | refine Chg.drew ?_ | exact Chg.refl _ _))⟩
set_option maxRecDepth 100000 in
set_option maxHeartbeats 1000000 in
theorem swap_eq (w : World) (g n c i : Nat) (l : List Ent) (a : Ent) (ho : Own w 60 eEnt (.slice (some ⟨g, 0, none⟩) n c) l) (hl : n = l.length) (hi : l[i]? = some a) (hn : n ≤ 1000000) :
    Calls Try.prog 86 #[.slice (some ⟨g, 0, none⟩) n c, .int .i64 i, .int .i64 i] w fun e w' => (∃ v, e = .returned v) ∧ Own w' 60 eEnt (.slice (some ⟨g, 0, none⟩) n c) l ∧ Chg (fun x => x = g) w w' := by
  obtain ⟨a1, a2, a3⟩ := ho.ent i a hi
  have hil := (List.getElem?_eq_some_iff.1 hi).1
  have hi0 : (0 : Int) ≤ (i : Int) := by omega
  have hi1 : (i : Int) < (n : Int) := by omega
  have f1 := ho.frozen (i * 3)
  have f2 := ho.frozen (i * 3 + 1)
  have f3 := ho.frozen (i * 3 + 2)
  have hgl := ho.lt (g := g) rfl
  have hset : l.set i a = l := by
    obtain ⟨h1, h2⟩ := List.getElem?_eq_some_iff.1 hi
    rw [← h2]; exact List.set_getElem_self _
  have s1 := (ho.setE hl i hil a).setE (by simpa using hl) i (by simpa using hil) a
  rw [List.set_set, hset] at s1
  have S1 := Kp.mk s1
  clear ho hl hi s1 hset
  go_enter Try.func86, Try.ntmps86
  go_region
  go_end0
  exact ⟨⟨_, rfl⟩, S1.out.drew, by repeat (with_reducible (first | refine Chg.setg ?_ _ _ | refine Chg.drew ?_ | exact Chg.refl _ _))⟩
theorem swap_any (w : World) (g n c i j : Nat) (l : List Ent) (a b : Ent) (ho : Own w 60 eEnt (.slice (some ⟨g, 0, none⟩) n c) l) (hl : n = l.length) (hi : l[i]? = some a) (hj : l[j]? = some b) (hn : n ≤ 1000000) :
    Calls Try.prog 86 #[.slice (some ⟨g, 0, none⟩) n c, .int .i64 i, .int .i64 j] w fun e w' => (∃ v, e = .returned v) ∧ Own w' 60 eEnt (.slice (some ⟨g, 0, none⟩) n c) (swapL l i j a b) ∧ Chg (fun x => x = g) w w' := by
  by_cases hij : i = j
  · subst hij
    obtain rfl : a = b := by rw [hi] at hj; exact Option.some.inj hj
    have e : swapL l i i a a = l := by
      obtain ⟨h1, h2⟩ := List.getElem?_eq_some_iff.1 hi
      unfold swapL
      rw [List.set_set, ← h2]; exact List.set_getElem_self _
    rw [e]
    exact swap_eq w g n c i l a ho hl hi hn
  · exact swap_ne w g n c i j l a b ho hl hi hj hn hij
set_option maxHeartbeats 400000 in
theorem len_any (w : World) (A : Option Addr) (n c : Nat) : Calls Try.prog 84 #[.slice A n c] w fun e w' => e = .returned (.int .i64 n) ∧ w = w' := by
  go_enter Try.func84, Try.ntmps84
  go_wp2
  go_ret
  exact ⟨rfl, rfl⟩
end Go.Proofs.Ytobgabjoehjpcaa
