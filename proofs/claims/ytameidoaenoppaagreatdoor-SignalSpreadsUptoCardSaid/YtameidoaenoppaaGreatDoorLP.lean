/- A graph of package links in memory; New, isPid, two, pairOf; no condition. -/
import Derived.Test.YtameidoaenoppaaGreatDoorLK
import Derived.Test.YtameidoaenoppaaGreatDoorDraw
namespace Go.Proofs.YtameidoaenoppaaGreatDoor
open Go.RowKit

structure G3 (w : World) (p bm lm rm : Nat) (last : Int) (eb : List (Int × Value)) (el : List ((Int × Int) × Value)) (er : List (Int × Value)) : Prop where
  blk : w.heap[p]? = some (.cells #[.map (some bm), .int .i64 last, .map (some lm), .map (some rm)] 87 (0, 0))
  mb : IsMapV K2 w bm eb
  ml : IsMapV K77 w lm el
  mr : IsMapV K2 w rm er
  ne : bm ≠ lm ∧ bm ≠ rm ∧ lm ≠ rm
def FG (p bm lm rm : Nat) : Nat → Prop := fun g => g = p ∨ g = bm ∨ g = lm ∨ g = rm
section
variable {w w' : World} {p bm lm rm : Nat} {last : Int} {eb : List (Int × Value)} {el : List ((Int × Int) × Value)} {er : List (Int × Value)}
theorem IsMapV.al {κ : Type} [DecidableEq κ] {P : Program} {k : TypeId} {T : KeyT P k κ} {b : Nat} {es : List (κ × Value)} (h : IsMapV T w b es) (o : Obj) : IsMapV T (w.alloc o) b es := h.below ((Below.refl _ _).alloc (Nat.le_refl _) _)
theorem map_ne {κ : Type} [DecidableEq κ] {P : Program} {k : TypeId} {T : KeyT P k κ} {b : Nat} {es : List (κ × Value)} {c : Array Value} {t : TypeId} (h : IsMapV T w b es) (hp : w.heap[p]? = some (.cells c t (0, 0))) : p ≠ b := by
  rintro rfl
  obtain ⟨a, c', hb⟩ := h.blk
  rw [hp] at hb
  cases hb
theorem G3.pne (h : G3 w p bm lm rm last eb el er) : p ≠ bm ∧ p ≠ lm ∧ p ≠ rm := ⟨map_ne h.mb h.blk, map_ne h.ml h.blk, map_ne h.mr h.blk⟩
theorem G3.frame (h : G3 w p bm lm rm last eb el er) {F : Nat → Prop} (hc : Chg F w w') (hn : ∀ g, FG p bm lm rm g → ¬ F g) : G3 w' p bm lm rm last eb el er :=
  ⟨hc.at h.blk (hn _ (.inl rfl)), h.mb.frame hc (hn _ (.inr (.inl rfl))), h.ml.frame hc (hn _ (.inr (.inr (.inl rfl)))), h.mr.frame hc (hn _ (.inr (.inr (.inr rfl)))), h.ne⟩
theorem G3.below (h : G3 w p bm lm rm last eb el er) (hb : Below w.heap.size w w') : G3 w' p bm lm rm last eb el er := h.frame (Chg.of_below hb NoF) fun _ _ h => h
theorem G3.lt (h : G3 w p bm lm rm last eb el er) (g : Nat) (hg : FG p bm lm rm g) : g < w.heap.size := by
  rcases hg with rfl | rfl | rfl | rfl
  · exact lt_of_block h.blk
  · exact h.mb.lt
  · exact h.ml.lt
  · exact h.mr.lt
theorem G3.c0 (h : G3 w p bm lm rm last eb el er) : w.cell? ⟨p, 0, none⟩ = some (.map (some bm)) := blk_c h.blk 0
theorem G3.c1 (h : G3 w p bm lm rm last eb el er) : w.cell? ⟨p, 1, none⟩ = some (.int .i64 last) := blk_c h.blk 1
theorem G3.c2 (h : G3 w p bm lm rm last eb el er) : w.cell? ⟨p, 2, none⟩ = some (.map (some lm)) := blk_c h.blk 2
theorem G3.c3 (h : G3 w p bm lm rm last eb el er) : w.cell? ⟨p, 3, none⟩ = some (.map (some rm)) := blk_c h.blk 3
end
/-- A graph. -/
structure IsG (w : World) (p bm lm rm : Nat) (ns : List NB) (last : Int) : Prop where
  g : G3 w p bm lm rm last (bondsE ns) (linksE ns) (refsE ns)
  ok : GOk ns last

set_option maxRecDepth 100000 in
set_option maxHeartbeats 1000000 in
theorem new_any (w : World) : Calls Tryz.prog 17 #[] w fun e w' => ∃ p bm lm rm, e = .returned (.pointer (some ⟨p, 0, none⟩)) ∧ IsG w' p bm lm rm [] 0 ∧ (∀ g, FG p bm lm rm g → w.heap.size ≤ g) ∧ Below w.heap.size w w' := by
  have hmm := @run_makeMap Tryz.prog
  go_enter Tryz.func17, Tryz.ntmps17
  go_wp2
  go_ret
  have b1 : Below w.heap.size w (w.alloc (.map #[] 0)) := (Below.refl _ w).alloc (Nat.le_refl _) _
  refine ⟨w.heap.size + 1 + 1 + 1, w.heap.size, w.heap.size + 1, w.heap.size + 1 + 1, rfl, ⟨⟨?_, ?_, ?_, ?_, by omega⟩, GOk.nil⟩, ?_, ?_⟩
  · have h := blk_new (((w.alloc (.map #[] 0)).alloc (.map #[] 0)).alloc (.map #[] 0)) (.cells #[.map (some w.heap.size), .int .i64 0, .map (some (w.heap.size + 1)), .map (some (w.heap.size + 1 + 1))] 87)
    rw [World.size_alloc, World.size_alloc, World.size_alloc] at h
    exact h
  · exact (((isMap_made K2 w).al _).al _).al _
  · have h := isMap_made K77 (w.alloc (.map #[] 0))
    rw [World.size_alloc] at h
    exact (h.al _).al _
  · have h := isMap_made K2 ((w.alloc (.map #[] 0)).alloc (.map #[] 0))
    rw [World.size_alloc, World.size_alloc] at h
    exact h.al _
  · rintro g (rfl | rfl | rfl | rfl) <;> omega
  · exact ((b1.alloc (by simp) _).alloc (by simp; omega) _).alloc (by simp; omega) _

set_option maxHeartbeats 400000 in
theorem isPid_any (w : World) (a : Int) : Calls Tryz.prog 44 #[.int .i64 a] w fun e w' => e = .returned (.bool (decide (IsPid a))) ∧ w = w' := by
  by_cases h1 : 1 ≤ a
  · have d1 : decide (a ≥ 1) = true := by simpa using h1
    by_cases h2 : a ≤ 1099511627776
    · have e : Kp (decide (IsPid a) = true) := ⟨decide_eq_true (show IsPid a from ⟨h1, h2⟩)⟩
      go_enter Tryz.func44, Tryz.ntmps44
      go_wp2
      go_ret
      exact ⟨by rw [e.out]; rfl, rfl⟩
    · have e : Kp (decide (IsPid a) = false) := ⟨decide_eq_false (fun h => h2 h.2)⟩
      go_enter Tryz.func44, Tryz.ntmps44
      go_wp2
      go_ret
      exact ⟨by rw [e.out]; rfl, rfl⟩
  · have e : Kp (decide (IsPid a) = false) := ⟨decide_eq_false (fun h => h1 h.1)⟩
    go_enter Tryz.func44, Tryz.ntmps44
    go_wp2
    go_ret
    exact ⟨by rw [e.out]; rfl, rfl⟩
/-- What is wrong of two. -/
def twoE (a b : Int) : Int := if IsPid a ∧ IsPid b ∧ a ≠ b then 0 else 1
set_option maxRecDepth 100000 in
set_option maxHeartbeats 1000000 in
theorem two_any (w : World) (p : Nat) (a b : Int) : Calls Tryz.prog 48 #[.pointer (some ⟨p, 0, none⟩), .int .i64 a, .int .i64 b] w fun e w' => e = .returned (.int .i64 (twoE a b)) ∧ w = w' := by
  have H := fun x => isPid_any w x
  cases h1 : decide (IsPid a)
  · have e : Kp (twoE a b = 1) := ⟨by unfold twoE; rw [if_neg (fun h => of_decide_eq_false h1 h.1)]⟩
    go_enter Tryz.func48, Tryz.ntmps48
    go_wp2_with (go_at_call 44; refine (isPid_any _ _).mono ?_; rintro e w' ⟨rfl, rfl⟩; rw [h1])
    go_ret
    exact ⟨by rw [e.out]; rfl, rfl⟩
  · cases h2 : decide (IsPid b)
    · have e : Kp (twoE a b = 1) := ⟨by unfold twoE; rw [if_neg (fun h => of_decide_eq_false h2 h.2.1)]⟩
      go_enter Tryz.func48, Tryz.ntmps48
      go_wp2_with (first | (go_at_call 44; refine (isPid_any _ a).mono ?_; rintro e w' ⟨rfl, rfl⟩; rw [h1]) | (go_at_call 44; refine (isPid_any _ b).mono ?_; rintro e w' ⟨rfl, rfl⟩; rw [h2]))
      go_ret
      exact ⟨by rw [e.out]; rfl, rfl⟩
    · by_cases h3 : a = b
      · have e : Kp (twoE a b = 1) := ⟨by unfold twoE; rw [if_neg (fun h => h.2.2 h3)]⟩
        subst h3
        go_enter Tryz.func48, Tryz.ntmps48
        go_wp2_with (go_at_call 44; refine (isPid_any _ _).mono ?_; rintro e w' ⟨rfl, rfl⟩; rw [h1])
        go_ret
        exact ⟨by rw [e.out]; rfl, rfl⟩
      · have e : Kp (twoE a b = 0) := ⟨by unfold twoE; rw [if_pos ⟨of_decide_eq_true h1, of_decide_eq_true h2, h3⟩]⟩
        have h4 : (a == b) = false := by simpa using h3
        go_enter Tryz.func48, Tryz.ntmps48
        go_wp2_with (first | (go_at_call 44; refine (isPid_any _ a).mono ?_; rintro e w' ⟨rfl, rfl⟩; rw [h1]) | (go_at_call 44; refine (isPid_any _ b).mono ?_; rintro e w' ⟨rfl, rfl⟩; rw [h2]))
        go_ret
        exact ⟨by rw [e.out]; rfl, rfl⟩
set_option maxRecDepth 100000 in
set_option maxHeartbeats 1000000 in
theorem pairOf_any (w : World) (a b : Int) : Calls Tryz.prog 49 #[.int .i64 a, .int .i64 b] w fun e w' => e = .returned (.agg #[.int .i64 (min a b), .int .i64 (max a b)]) ∧ Below w.heap.size w w' := by
  have fin : ∀ (x y : Int) (tm : Array Value), tm.getD 4 undef = .pointer (some ⟨w.heap.size, 0, none⟩) → x = min a b → y = max a b →
      bodyPost Tryz.prog Tryz.f49 (fun e w' => e = Ending.returned (Value.agg #[Value.int .i64 (min a b), Value.int .i64 (max a b)]) ∧ Below w.heap.size w w') Exit.ret { tmps := tm, defers := [] } (w.alloc (.cells #[.int .i64 x, .int .i64 y] 92)) := fun x y tm ht hx hy => by
    subst hx; subst hy
    exact bodyPost_ret (results_cell_row rfl _ _ w.heap.size 92 _ (0, 0) _ ht (blk_new w _) Tryz.underlying92 rfl (by kernel_rfl)) rfl ⟨rfl, (Below.refl _ w).alloc (Nat.le_refl _) _⟩
  have FIN := Kp.mk fin
  clear fin
  go_enter Tryz.func49, Tryz.ntmps49
  go_wp2
  all_goals exact FIN.out _ _ _ rfl (by omega) (by omega)
end Go.Proofs.YtameidoaenoppaaGreatDoor
