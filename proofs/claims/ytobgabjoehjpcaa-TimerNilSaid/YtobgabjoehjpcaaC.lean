/- What ahead, Less, Swap of package timer answer; no condition but bounds. -/
import Derived.Test.YtobgabjoehjpcaaM
import Derived.Sort.Grow
namespace Go.Proofs.Ytobgabjoehjpcaa
open Go.RowKit

/-- Draws, and blocks laid behind. -/
def Grew (w w' : World) : Prop := ∃ q os, w' = Go.Sort.grow (w.drewN q) os
theorem Grew.refl (w : World) : Grew w w := ⟨0, #[], by simp [World.drewN]⟩
theorem Grew.drew {w w' : World} (h : Grew w w') : Grew w w'.drew := by
  obtain ⟨q, os, rfl⟩ := h
  exact ⟨q + 1, os, by unfold World.drewN World.drew Go.Sort.grow; simp [Nat.add_assoc]⟩
theorem Grew.alloc {w w' : World} (h : Grew w w') (o : Obj) : Grew w (w'.alloc o) := by
  obtain ⟨q, os, rfl⟩ := h
  exact ⟨q, os.push o, by unfold World.drewN World.alloc Go.Sort.grow; simp⟩
theorem Grew.below {w w' : World} (h : Grew w w') : Below w.heap.size w w' := by
  obtain ⟨q, os, rfl⟩ := h
  exact ⟨rfl, rfl, rfl, by simp [Go.Sort.grow, World.drewN], fun k hk => by simp [Go.Sort.grow, World.drewN, Array.getElem?_append_left hk]⟩
def agg (a : Ent) : Value := .agg #[.int .i64 a.ref, .int .i64 a.dl, .int .i64 a.tn]
theorem ahead_same (a : Ent) : aheadV a a = 0 := by unfold aheadV orV cmpV; simp
set_option maxRecDepth 100000 in
set_option maxHeartbeats 1000000 in
theorem ahead_both (w : World) (a b : Ent) : Calls Try.prog 43 #[.agg #[.int .i64 a.ref, .int .i64 a.dl, .int .i64 a.tn], .agg #[.int .i64 b.ref, .int .i64 b.dl, .int .i64 b.tn]] w fun e w' => e = .returned (.int .i64 (aheadV a b)) ∧ Grew w w' := by
  by_cases hab : a = b
  · have e : Kp (aheadV a b = 0) := ⟨by rw [hab]; exact ahead_same b⟩
    subst hab
    have h1 : (a.ref == a.ref) = true := by simp
    have h2 : (a.dl == a.dl) = true := by simp
    have h3 : (a.tn == a.tn) = true := by simp
    go_enter Try.func43, Try.ntmps43
    go_wp2
    go_ret
    rw [e.out]
    exact ⟨rfl, ((Grew.refl _).alloc _).alloc _⟩
  · obtain ⟨W0, hW0⟩ : ∃ W0, W0 = (w.alloc (.cells #[.int .i64 a.ref, .int .i64 a.dl, .int .i64 a.tn] 60)).alloc (.cells #[.int .i64 b.ref, .int .i64 b.dl, .int .i64 b.tn] 60) := ⟨_, rfl⟩
    have k0 := blk_alloc (blk_new w (.cells #[.int .i64 a.ref, .int .i64 a.dl, .int .i64 a.tn] 60)) (.cells #[.int .i64 b.ref, .int .i64 b.dl, .int .i64 b.tn] 60)
    have k1 := blk_new (w.alloc (.cells #[.int .i64 a.ref, .int .i64 a.dl, .int .i64 a.tn] 60)) (.cells #[.int .i64 b.ref, .int .i64 b.dl, .int .i64 b.tn] 60)
    rw [← hW0] at k0 k1
    have hb0 : Grew w W0 := by rw [hW0]; exact ((Grew.refl _).alloc _).alloc _
    rw [show (w.alloc (.cells #[.int .i64 a.ref, .int .i64 a.dl, .int .i64 a.tn] 60)).heap.size = w.heap.size + 1 from by simp] at k1
    have HB0 := Kp.mk hb0
    have K0 : Kp (W0.drew.heap[w.heap.size]? = some (.cells #[.int .i64 a.ref, .int .i64 a.dl, .int .i64 a.tn] 60 (0, 0))) := ⟨k0⟩
    have K1 : Kp (W0.drew.heap[w.heap.size + 1]? = some (.cells #[.int .i64 b.ref, .int .i64 b.dl, .int .i64 b.tn] 60 (0, 0))) := ⟨k1⟩
    have hor : (!(a.ref == b.ref) || !(a.dl == b.dl) || !(a.tn == b.tn)) = true := by
      cases a; cases b
      simp at hab ⊢
      omega
    have hW := Kp.mk hW0
    have HAB := Kp.mk hab
    clear k0 k1 hb0 hab hW0
    have hcase : (a.ref == b.ref) = false ∨ ((a.ref == b.ref) = true ∧ (a.dl == b.dl) = false) ∨ ((a.ref == b.ref) = true ∧ (a.dl == b.dl) = true ∧ (a.tn == b.tn) = false) := by
      cases h1 : (a.ref == b.ref) <;> cases h2 : (a.dl == b.dl) <;> cases h3 : (a.tn == b.tn) <;> simp_all
    clear hor
    have HC := Kp.mk hcase
    clear hcase
    go_enter Try.func43, Try.ntmps43
    rcases HC.out with h1 | ⟨h1, h2⟩ | ⟨h1, h2, h3⟩
    all_goals
      go_upto_region 3 with fail
      rw [← hW.out]
      refine R_begin 999 (fun w9 => w9.cell? ⟨w.heap.size, 1, none⟩ = some (.int .i64 a.dl) ∧ w9.cell? ⟨w.heap.size, 2, none⟩ = some (.int .i64 a.tn) ∧ w9.cell? ⟨w.heap.size + 1, 1, none⟩ = some (.int .i64 b.dl) ∧ w9.cell? ⟨w.heap.size + 1, 2, none⟩ = some (.int .i64 b.tn)) (by kernel_rfl) ⟨blk_c K0.out 1, blk_c K0.out 2, blk_c K1.out 1, blk_c K1.out 2⟩ (fun HP0 => ?_)
      refine R_pure 0 rfl (by kernel_rfl) HP0 ?_
      apply Exists.intro
      refine ⟨fun _ _ _ h => h, .inl ⟨by kernel_rfl, fun w9 h9 => ?_⟩, fun HP1 => ?_⟩
      · clear h9; go_simp; first | done | rfl
      clear HP0
      refine R_take 1 rfl (by kernel_rfl) HP1 ?_
      apply Exists.intro
      refine ⟨fun _ _ _ h => h, .inl ⟨by kernel_rfl, fun w9 h9 => ?_⟩, fun HP2 => ?_⟩
      · obtain ⟨s1, s2, s3, s4⟩ := h9; go_simp; first | done | rfl
      clear HP1
      refine R_pure 2 rfl (by kernel_rfl) HP2 ?_
      apply Exists.intro
      refine ⟨fun _ _ _ h => h, .inl ⟨by kernel_rfl, fun w9 h9 => ?_⟩, fun HP3 => ?_⟩
      · clear h9; go_simp; first | done | rfl
      clear HP2
      refine R_take 3 rfl (by kernel_rfl) HP3 ?_
      apply Exists.intro
      refine ⟨fun _ _ _ h => h, .inl ⟨by kernel_rfl, fun w9 h9 => ?_⟩, fun HP4 => ?_⟩
      · obtain ⟨s1, s2, s3, s4⟩ := h9; go_simp; first | done | rfl
      clear HP3
      refine R_pure 5 rfl (by kernel_rfl) HP4 ?_
      apply Exists.intro
      refine ⟨fun _ _ _ h => h, .inl ⟨by kernel_rfl, fun w9 h9 => ?_⟩, fun HP5 => ?_⟩
      · clear h9; go_simp; first | done | rfl
      clear HP4
      refine R_take 6 rfl (by kernel_rfl) HP5 ?_
      apply Exists.intro
      refine ⟨fun _ _ _ h => h, .inl ⟨by kernel_rfl, fun w9 h9 => ?_⟩, fun HP6 => ?_⟩
      · obtain ⟨s1, s2, s3, s4⟩ := h9; go_simp; first | done | rfl
      clear HP5
      refine R_pure 7 rfl (by kernel_rfl) HP6 ?_
      apply Exists.intro
      refine ⟨fun _ _ _ h => h, .inl ⟨by kernel_rfl, fun w9 h9 => ?_⟩, fun HP7 => ?_⟩
      · clear h9; go_simp; first | done | rfl
      clear HP6
      refine R_take 8 rfl (by kernel_rfl) HP7 ?_
      apply Exists.intro
      refine ⟨fun _ _ _ h => h, .inl ⟨by kernel_rfl, fun w9 h9 => ?_⟩, fun HP8 => ?_⟩
      · obtain ⟨s1, s2, s3, s4⟩ := h9; go_simp; first | done | rfl
      clear HP7
      refine R_all [4] (by kernel_rfl) ?_
      refine AllR.cons (i := 4) rfl (fun K9 HK9 => ?_) ?_
      · go_simp
        refine (cmp_any _ _ _).mono ?_
        rintro e w' ⟨rfl, rfl⟩
        go_simp
        refine HK9.out _ _ (.inr ⟨blk_c K0.out 1, blk_c K0.out 2, blk_c K1.out 1, blk_c K1.out 2⟩) (fun HP9 => ?_)
        clear HK9 K9
        refine R_all [9] (by kernel_rfl) ?_
        refine AllR.cons (i := 9) rfl (fun K9 HK9 => ?_) ?_
        · go_simp
          refine (cmp_any _ _ _).mono ?_
          rintro e w' ⟨rfl, rfl⟩
          go_simp
          refine HK9.out _ _ (.inr ⟨blk_c K0.out 1, blk_c K0.out 2, blk_c K1.out 1, blk_c K1.out 2⟩) (fun HP10 => ?_)
          clear HK9 K9
          refine R_all [10] (by kernel_rfl) ?_
          refine AllR.cons (i := 10) rfl (fun K9 HK9 => ?_) ?_
          · go_simp
            refine HK9.out _ _ (.inr ⟨blk_c (blk_alloc K0.out _) 1, blk_c (blk_alloc K0.out _) 2, blk_c (blk_alloc K1.out _) 1, blk_c (blk_alloc K1.out _) 2⟩) (fun HP11 => ?_)
            clear HK9 K9
            refine R_all [11] (by kernel_rfl) ?_
            refine AllR.cons (i := 11) rfl (fun K9 HK9 => ?_) ?_
            · go_simp
              refine (or_any _ _ (cmpV a.dl b.dl) (cmpV a.tn b.tn) (blk_c (blk_new W0.drew _) 0) (blk_c (blk_new W0.drew _) 1)).mono ?_
              rintro e w' ⟨rfl, rfl⟩
              go_simp
              refine HK9.out _ _ (.inr ⟨blk_c (blk_alloc K0.out _) 1, blk_c (blk_alloc K0.out _) 2, blk_c (blk_alloc K1.out _) 1, blk_c (blk_alloc K1.out _) 2⟩) (fun HP12 => ?_)
              clear HK9 K9
              refine R_pure 12 rfl (by kernel_rfl) HP12 ?_
              apply Exists.intro
              refine ⟨fun _ _ _ h => h, .inl ⟨by kernel_rfl, fun w9 h9 => ?_⟩, fun HP13 => ?_⟩
              · clear h9; go_simp; first | done | rfl
              clear HP12
              refine R_done (by kernel_rfl) ?_
              go_wp2
              go_ret
              exact ⟨rfl, HB0.out.drew.alloc _⟩
            exact AllR.nil
          exact AllR.nil
        exact AllR.nil
      exact AllR.nil
theorem ahead_any (w : World) (a b : Ent) : Calls Try.prog 43 #[.agg #[.int .i64 a.ref, .int .i64 a.dl, .int .i64 a.tn], .agg #[.int .i64 b.ref, .int .i64 b.dl, .int .i64 b.tn]] w fun e w' => e = .returned (.int .i64 (aheadV a b)) ∧ Below w.heap.size w w' :=
  (ahead_both w a b).mono fun _ _ h => ⟨h.1, h.2.below⟩
theorem lessB_def (a b : Ent) : decide (aheadV a b < 0) = lessB a b := rfl
/-- Three cells of an entry. -/
structure At (w : World) (g o : Nat) (e : Ent) : Prop where
  c0 : w.cell? ⟨g, o, none⟩ = some (.int .i64 e.ref)
  c1 : w.cell? ⟨g, o + 1, none⟩ = some (.int .i64 e.dl)
  c2 : w.cell? ⟨g, o + 2, none⟩ = some (.int .i64 e.tn)
theorem Own.ent {w : World} {g n c : Nat} {l : List Ent} (h : Own w 60 eEnt (.slice (some ⟨g, 0, none⟩) n c) l) (i : Nat) (e : Ent) (hi : l[i]? = some e) : At w g (i * 3) e := by
  obtain ⟨hlt, rfl⟩ := List.getElem?_eq_some_iff.1 hi
  exact ⟨h.elem i 0 hlt (by decide), h.elem i 1 hlt (by decide), h.elem i 2 hlt (by decide)⟩
theorem At.below {w w' : World} {g o : Nat} {e : Ent} (h : At w g o e) (hb : Below w.heap.size w w') : At w' g o e :=
  ⟨(hb.cell (World.block_lt_of_cell? w _ h.c0)).trans h.c0, (hb.cell (World.block_lt_of_cell? w _ h.c1)).trans h.c1, (hb.cell (World.block_lt_of_cell? w _ h.c2)).trans h.c2⟩
set_option maxRecDepth 100000 in
set_option maxHeartbeats 1000000 in
theorem less_any (w : World) (g n c i j : Nat) (a b : Ent) (hi : i < n) (hj : j < n) (hn : n ≤ 1000000) (ha : At w g (i * 3) a) (hb : At w g (j * 3) b) :
    Calls Try.prog 85 #[.slice (some ⟨g, 0, none⟩) n c, .int .i64 i, .int .i64 j] w fun e w' => e = .returned (.bool (lessB a b)) ∧ Below w.heap.size w w' := by
  have HA : Kp (At w.drew g (i * 3) a) := ⟨⟨ha.c0, ha.c1, ha.c2⟩⟩
  have HB : Kp (At w.drew g (j * 3) b) := ⟨⟨hb.c0, hb.c1, hb.c2⟩⟩
  have hi0 : (0 : Int) ≤ (i : Int) := by omega
  have hi1 : (i : Int) < (n : Int) := by omega
  have hj0 : (0 : Int) ≤ (j : Int) := by omega
  have hj1 : (j : Int) < (n : Int) := by omega
  clear ha hb
  go_enter Try.func85, Try.ntmps85
  go_upto_region 1 with fail
  refine R_begin 999 (fun w9 => At w9 g (i * 3) a ∧ At w9 g (j * 3) b) (by kernel_rfl) ⟨HA.out, HB.out⟩ (fun HP0 => ?_)
  refine R_pure 0 rfl (by kernel_rfl) HP0 ?_
  apply Exists.intro
  refine ⟨fun _ _ _ h => h, .inl ⟨by kernel_rfl, fun w9 h9 => ?_⟩, fun HP1 => ?_⟩
  · clear h9; go_simp; first | done | rfl
  clear HP0
  refine R_pure 1 rfl (by kernel_rfl) HP1 ?_
  apply Exists.intro
  refine ⟨fun _ _ _ h => h, .inl ⟨by kernel_rfl, fun w9 h9 => ?_⟩, fun HP2 => ?_⟩
  · clear h9; go_simp; first | done | rfl
  clear HP1
  refine R_pure 2 rfl (by kernel_rfl) HP2 ?_
  apply Exists.intro
  refine ⟨fun _ _ _ h => h, .inl ⟨by kernel_rfl, fun w9 h9 => ?_⟩, fun HP3 => ?_⟩
  · clear h9; go_simp; first | done | rfl
  clear HP2
  refine R_take 3 rfl (by kernel_rfl) HP3 ?_
  apply Exists.intro
  refine ⟨fun _ _ _ h => h, .inl ⟨by kernel_rfl, fun w9 h9 => ?_⟩, fun HP4 => ?_⟩
  · obtain ⟨⟨s1, s2, s3⟩, ⟨s4, s5, s6⟩⟩ := h9; go_simp; first | done | rfl
  clear HP3
  refine R_pure 4 rfl (by kernel_rfl) HP4 ?_
  apply Exists.intro
  refine ⟨fun _ _ _ h => h, .inl ⟨by kernel_rfl, fun w9 h9 => ?_⟩, fun HP5 => ?_⟩
  · clear h9; go_simp; first | done | rfl
  clear HP4
  refine R_pure 5 rfl (by kernel_rfl) HP5 ?_
  apply Exists.intro
  refine ⟨fun _ _ _ h => h, .inl ⟨by kernel_rfl, fun w9 h9 => ?_⟩, fun HP6 => ?_⟩
  · clear h9; go_simp; first | done | rfl
  clear HP5
  refine R_pure 6 rfl (by kernel_rfl) HP6 ?_
  apply Exists.intro
  refine ⟨fun _ _ _ h => h, .inl ⟨by kernel_rfl, fun w9 h9 => ?_⟩, fun HP7 => ?_⟩
  · clear h9; go_simp; first | done | rfl
  clear HP6
  refine R_take 7 rfl (by kernel_rfl) HP7 ?_
  apply Exists.intro
  refine ⟨fun _ _ _ h => h, .inl ⟨by kernel_rfl, fun w9 h9 => ?_⟩, fun HP8 => ?_⟩
  · obtain ⟨⟨s1, s2, s3⟩, ⟨s4, s5, s6⟩⟩ := h9; go_simp; first | done | rfl
  clear HP7
  refine R_all [8] (by kernel_rfl) ?_
  refine AllR.cons (i := 8) rfl (fun K9 HK9 => ?_) ?_
  · go_simp
    refine (ahead_any _ a b).mono ?_
    rintro e w5 ⟨rfl, hb5⟩
    have HB5 := Kp.mk hb5
    have HA6 := Kp.mk (HA.out.below hb5)
    have HB6 := Kp.mk (HB.out.below hb5)
    clear hb5
    go_simp
    refine HK9.out _ _ (.inr ⟨HA6.out, HB6.out⟩) (fun HP9 => ?_)
    clear HK9 K9
    refine R_pure 9 rfl (by kernel_rfl) HP9 ?_
    apply Exists.intro
    refine ⟨fun _ _ _ h => h, .inl ⟨by kernel_rfl, fun w9 h9 => ?_⟩, fun HP10 => ?_⟩
    · clear h9; go_simp; first | done | rfl
    clear HP9
    refine R_pure 10 rfl (by kernel_rfl) HP10 ?_
    apply Exists.intro
    refine ⟨fun _ _ _ h => h, .inl ⟨by kernel_rfl, fun w9 h9 => ?_⟩, fun HP11 => ?_⟩
    · clear h9; go_simp; first | done | rfl
    clear HP10
    refine R_done (by kernel_rfl) ?_
    go_wp2
    go_ret
    exact ⟨rfl, (Below.refl _ w).drew.trans HB5.out⟩
  exact AllR.nil
end Go.Proofs.Ytobgabjoehjpcaa
