/- The document's words of package signal: Is, atom, told, Exit, Down and Send walked; bounds stand in the statements. -/
import Derived.Test.YtameidoaenoppaaGreatDoorTg
import Derived.Test.YtameidoaenoppaaGreatDoorDraw
import Derived.Test.YtameidoaenoppaaGreatDoorLRa
import Derived.Deep.QuietTactic
import Derived.WalkSmall
namespace Go.Proofs.YtameidoaenoppaaGreatDoor
open Go.RowKit

set_option maxHeartbeats 1000000 in
theorem datom_any (w : World) (s : ByteArray) : Calls Tryz.prog 64 #[.string s] w fun e w' => e = .returned (.agg #[.int .i64 2, .int .i64 0, .string s]) ∧ Below w.heap.size w w' := by
  go_enter Tryz.func64, Tryz.ntmps64
  go_wp2
  exact bodyPost_ret (results_cell_row rfl _ _ w.heap.size 63 _ (0, 0) _ rfl (blk_new w _) Tryz.underlying63 rfl (by kernel_rfl)) rfl ⟨rfl, (Below.refl _ w).alloc (Nat.le_refl _) _⟩
set_option maxRecDepth 100000 in
set_option maxHeartbeats 4000000 in
theorem dis_any (w : World) (A : Option Addr) (c : Nat) (t : List Ce) (s : ByteArray) (hs : Src w eCe A c t) (hn : t.length ≤ 9000000000000) :
    Calls Tryz.prog 37 #[.slice A t.length c, .string s] w fun e w' => e = .returned (.bool (isA t s)) ∧ Below w.heap.size w w' := by
  have HS := Kp.mk hs
  clear hs
  by_cases h1 : t.length = 1
  · obtain ⟨x, rfl⟩ := List.length_eq_one_iff.1 h1
    obtain ⟨ad, rfl⟩ : ∃ ad, A = some ad := by
      cases A with
      | none => have h9 := (HS.out.none rfl).1; cases h9
      | some ad => exact ⟨ad, rfl⟩
    obtain ⟨g, o, rfl⟩ := HS.out.addr (by simp)
    have E := Kp.mk (isA_one x s)
    obtain ⟨k, n, t⟩ := x
    have HC : Kp (∀ w', Below w.heap.size w w' → w'.cell? ⟨g, o, none⟩ = some (.int .i64 k) ∧ w'.cell? ⟨g, o + 1, none⟩ = some (.int .i64 n) ∧ w'.cell? ⟨g, o + 2, none⟩ = some (.string t)) := ⟨fun w' hb => by
      obtain ⟨a0, a1, a2⟩ := (HS.out.below hb).ce 0 _ rfl
      rw [Nat.zero_mul, Nat.add_zero] at a0 a1 a2
      exact ⟨a0, a1, a2⟩⟩
    have B0 := Kp.mk (Below.refl w.heap.size w).drew
    have hl1 : [(⟨k, n, t⟩ : Ce)].length = 1 := rfl
    rw [hl1]
    clear h1 hl1
    by_cases hk : k = 2
    · subst hk
      by_cases hnn : n = 0
      · subst hnn
        by_cases ht : t = s
        · subst ht
          have hb : (t.toList == t.toList) = true := beq_self_eq_true _
          have E2 : Kp (isA [⟨2, 0, t⟩] t = true) := ⟨by rw [E.out]; simp⟩
          rw [E2.out]
          go_enter Tryz.func37, Tryz.ntmps37
          go_wp2_with fail
          refine R_begin 999 (fun w9 => w9.cell? ⟨g, o, none⟩ = some (.int .i64 2) ∧ w9.cell? ⟨g, o + 1, none⟩ = some (.int .i64 0) ∧ w9.cell? ⟨g, o + 2, none⟩ = some (.string t)) (by kernel_rfl) (HC.out _ B0.out) (fun HP0 => ?_)
          refine R_pure 0 rfl (by kernel_rfl) HP0 ?_
          apply Exists.intro
          refine ⟨fun _ _ _ h => h, .inl ⟨by kernel_rfl, fun w9 h9 => ?_⟩, fun HP1 => ?_⟩
          · clear h9; go_simp; first | done | rfl
          clear HP0
          refine R_pure 1 rfl (by kernel_rfl) HP1 ?_
          apply Exists.intro
          refine ⟨fun _ _ _ h => h, .inl ⟨by kernel_rfl, fun w9 h9 => ?_⟩, fun HP2 => ?_⟩
          · clear h9; go_simp; first | done | rfl
          clear HP1
          refine R_pure 2 rfl (by kernel_rfl) HP2 ?_
          apply Exists.intro
          refine ⟨fun _ _ _ h => h, .inl ⟨by kernel_rfl, fun w9 h9 => ?_⟩, fun HP3 => ?_⟩
          · clear h9; go_simp; first | done | rfl
          clear HP2
          refine R_pure 3 rfl (by kernel_rfl) HP3 ?_
          apply Exists.intro
          refine ⟨fun _ _ _ h => h, .inl ⟨by kernel_rfl, fun w9 h9 => ?_⟩, fun HP4 => ?_⟩
          · clear h9; go_simp; first | done | rfl
          clear HP3
          refine R_pure 4 rfl (by kernel_rfl) HP4 ?_
          apply Exists.intro
          refine ⟨fun _ _ _ h => h, .inl ⟨by kernel_rfl, fun w9 h9 => ?_⟩, fun HP5 => ?_⟩
          · clear h9; go_simp; first | done | rfl
          clear HP4
          refine R_pure 5 rfl (by kernel_rfl) HP5 ?_
          apply Exists.intro
          refine ⟨fun _ _ _ h => h, .inl ⟨by kernel_rfl, fun w9 h9 => ?_⟩, fun HP6 => ?_⟩
          · clear h9; go_simp; first | done | rfl
          clear HP5
          refine R_take 6 rfl (by kernel_rfl) HP6 ?_
          apply Exists.intro
          refine ⟨fun _ _ _ h => h, .inl ⟨by kernel_rfl, fun w9 h9 => ?_⟩, fun HP7 => ?_⟩
          · obtain ⟨s1, s2, s3⟩ := h9; go_simp; first | done | rfl
          clear HP6
          refine R_pure 7 rfl (by kernel_rfl) HP7 ?_
          apply Exists.intro
          refine ⟨fun _ _ _ h => h, .inl ⟨by kernel_rfl, fun w9 h9 => ?_⟩, fun HP8 => ?_⟩
          · clear h9; go_simp; first | done | rfl
          clear HP7
          refine R_all [8] (by kernel_rfl) ?_
          refine AllR.cons (i := 8) rfl (fun K9 HK9 => ?_) ?_
          · go_simp
            refine (datom_any _ t).mono ?_
            rintro e w5 ⟨rfl, b5⟩
            have B5 := Kp.mk (bstep B0.out B0.out.size b5)
            clear b5
            refine HK9.out _ _ (.inr ⟨by have := (HC.out _ B5.out).1; exact this, (HC.out _ B5.out).2.1, (HC.out _ B5.out).2.2⟩) (fun HP9 => ?_)
            clear HK9 K9
            refine R_pure 9 rfl (by kernel_rfl) HP9 ?_
            apply Exists.intro
            refine ⟨fun _ _ _ h => h, .inl ⟨by kernel_rfl, fun w9 h9 => ?_⟩, fun HP10 => ?_⟩
            · clear h9; go_simp; first | done | rfl
            clear HP9
            refine R_pure 10 rfl (by kernel_rfl) HP10 ?_
            apply Exists.intro
            refine ⟨fun _ _ _ h => h, .inl ⟨by kernel_rfl, fun w9 h9 => ?_⟩, fun HP11 => ?_⟩
            · clear h9; go_simp; first | done | rfl
            clear HP10
            refine R_pure 11 rfl (by kernel_rfl) HP11 ?_
            apply Exists.intro
            refine ⟨fun _ _ _ h => h, .inl ⟨by kernel_rfl, fun w9 h9 => ?_⟩, fun HP12 => ?_⟩
            · clear h9; go_simp; first | done | rfl
            clear HP11
            refine R_done (by kernel_rfl) ?_
            go_wp2
            go_ret
            exact ⟨rfl, B5.out⟩
          exact AllR.nil
        · have hb := toList_beq ht
          have E2 : Kp (isA [⟨2, 0, t⟩] s = false) := ⟨by rw [E.out]; simp [ht]⟩
          rw [E2.out]
          clear ht
          go_enter Tryz.func37, Tryz.ntmps37
          go_wp2_with fail
          refine R_begin 999 (fun w9 => w9.cell? ⟨g, o, none⟩ = some (.int .i64 2) ∧ w9.cell? ⟨g, o + 1, none⟩ = some (.int .i64 0) ∧ w9.cell? ⟨g, o + 2, none⟩ = some (.string t)) (by kernel_rfl) (HC.out _ B0.out) (fun HP0 => ?_)
          refine R_pure 0 rfl (by kernel_rfl) HP0 ?_
          apply Exists.intro
          refine ⟨fun _ _ _ h => h, .inl ⟨by kernel_rfl, fun w9 h9 => ?_⟩, fun HP1 => ?_⟩
          · clear h9; go_simp; first | done | rfl
          clear HP0
          refine R_pure 1 rfl (by kernel_rfl) HP1 ?_
          apply Exists.intro
          refine ⟨fun _ _ _ h => h, .inl ⟨by kernel_rfl, fun w9 h9 => ?_⟩, fun HP2 => ?_⟩
          · clear h9; go_simp; first | done | rfl
          clear HP1
          refine R_pure 2 rfl (by kernel_rfl) HP2 ?_
          apply Exists.intro
          refine ⟨fun _ _ _ h => h, .inl ⟨by kernel_rfl, fun w9 h9 => ?_⟩, fun HP3 => ?_⟩
          · clear h9; go_simp; first | done | rfl
          clear HP2
          refine R_pure 3 rfl (by kernel_rfl) HP3 ?_
          apply Exists.intro
          refine ⟨fun _ _ _ h => h, .inl ⟨by kernel_rfl, fun w9 h9 => ?_⟩, fun HP4 => ?_⟩
          · clear h9; go_simp; first | done | rfl
          clear HP3
          refine R_pure 4 rfl (by kernel_rfl) HP4 ?_
          apply Exists.intro
          refine ⟨fun _ _ _ h => h, .inl ⟨by kernel_rfl, fun w9 h9 => ?_⟩, fun HP5 => ?_⟩
          · clear h9; go_simp; first | done | rfl
          clear HP4
          refine R_pure 5 rfl (by kernel_rfl) HP5 ?_
          apply Exists.intro
          refine ⟨fun _ _ _ h => h, .inl ⟨by kernel_rfl, fun w9 h9 => ?_⟩, fun HP6 => ?_⟩
          · clear h9; go_simp; first | done | rfl
          clear HP5
          refine R_take 6 rfl (by kernel_rfl) HP6 ?_
          apply Exists.intro
          refine ⟨fun _ _ _ h => h, .inl ⟨by kernel_rfl, fun w9 h9 => ?_⟩, fun HP7 => ?_⟩
          · obtain ⟨s1, s2, s3⟩ := h9; go_simp; first | done | rfl
          clear HP6
          refine R_pure 7 rfl (by kernel_rfl) HP7 ?_
          apply Exists.intro
          refine ⟨fun _ _ _ h => h, .inl ⟨by kernel_rfl, fun w9 h9 => ?_⟩, fun HP8 => ?_⟩
          · clear h9; go_simp; first | done | rfl
          clear HP7
          refine R_all [8] (by kernel_rfl) ?_
          refine AllR.cons (i := 8) rfl (fun K9 HK9 => ?_) ?_
          · go_simp
            refine (datom_any _ s).mono ?_
            rintro e w5 ⟨rfl, b5⟩
            have B5 := Kp.mk (bstep B0.out B0.out.size b5)
            clear b5
            refine HK9.out _ _ (.inr ⟨by have := (HC.out _ B5.out).1; exact this, (HC.out _ B5.out).2.1, (HC.out _ B5.out).2.2⟩) (fun HP9 => ?_)
            clear HK9 K9
            refine R_pure 9 rfl (by kernel_rfl) HP9 ?_
            apply Exists.intro
            refine ⟨fun _ _ _ h => h, .inl ⟨by kernel_rfl, fun w9 h9 => ?_⟩, fun HP10 => ?_⟩
            · clear h9; go_simp; first | done | rfl
            clear HP9
            refine R_pure 10 rfl (by kernel_rfl) HP10 ?_
            apply Exists.intro
            refine ⟨fun _ _ _ h => h, .inl ⟨by kernel_rfl, fun w9 h9 => ?_⟩, fun HP11 => ?_⟩
            · clear h9; go_simp; first | done | rfl
            clear HP10
            refine R_pure 11 rfl (by kernel_rfl) HP11 ?_
            apply Exists.intro
            refine ⟨fun _ _ _ h => h, .inl ⟨by kernel_rfl, fun w9 h9 => ?_⟩, fun HP12 => ?_⟩
            · clear h9; go_simp; first | done | rfl
            clear HP11
            refine R_done (by kernel_rfl) ?_
            go_wp2
            go_ret
            exact ⟨rfl, B5.out⟩
          exact AllR.nil
      · have hb : (n == 0) = false := by simpa using hnn
        have E2 : Kp (isA [⟨2, n, t⟩] s = false) := ⟨by rw [E.out]; simp [hnn]⟩
        rw [E2.out]
        clear hnn
        go_enter Tryz.func37, Tryz.ntmps37
        go_wp2_with fail
        refine R_begin 999 (fun w9 => w9.cell? ⟨g, o, none⟩ = some (.int .i64 2) ∧ w9.cell? ⟨g, o + 1, none⟩ = some (.int .i64 n) ∧ w9.cell? ⟨g, o + 2, none⟩ = some (.string t)) (by kernel_rfl) (HC.out _ B0.out) (fun HP0 => ?_)
        refine R_pure 0 rfl (by kernel_rfl) HP0 ?_
        apply Exists.intro
        refine ⟨fun _ _ _ h => h, .inl ⟨by kernel_rfl, fun w9 h9 => ?_⟩, fun HP1 => ?_⟩
        · clear h9; go_simp; first | done | rfl
        clear HP0
        refine R_pure 1 rfl (by kernel_rfl) HP1 ?_
        apply Exists.intro
        refine ⟨fun _ _ _ h => h, .inl ⟨by kernel_rfl, fun w9 h9 => ?_⟩, fun HP2 => ?_⟩
        · clear h9; go_simp; first | done | rfl
        clear HP1
        refine R_pure 2 rfl (by kernel_rfl) HP2 ?_
        apply Exists.intro
        refine ⟨fun _ _ _ h => h, .inl ⟨by kernel_rfl, fun w9 h9 => ?_⟩, fun HP3 => ?_⟩
        · clear h9; go_simp; first | done | rfl
        clear HP2
        refine R_pure 3 rfl (by kernel_rfl) HP3 ?_
        apply Exists.intro
        refine ⟨fun _ _ _ h => h, .inl ⟨by kernel_rfl, fun w9 h9 => ?_⟩, fun HP4 => ?_⟩
        · clear h9; go_simp; first | done | rfl
        clear HP3
        refine R_pure 4 rfl (by kernel_rfl) HP4 ?_
        apply Exists.intro
        refine ⟨fun _ _ _ h => h, .inl ⟨by kernel_rfl, fun w9 h9 => ?_⟩, fun HP5 => ?_⟩
        · clear h9; go_simp; first | done | rfl
        clear HP4
        refine R_pure 5 rfl (by kernel_rfl) HP5 ?_
        apply Exists.intro
        refine ⟨fun _ _ _ h => h, .inl ⟨by kernel_rfl, fun w9 h9 => ?_⟩, fun HP6 => ?_⟩
        · clear h9; go_simp; first | done | rfl
        clear HP5
        refine R_take 6 rfl (by kernel_rfl) HP6 ?_
        apply Exists.intro
        refine ⟨fun _ _ _ h => h, .inl ⟨by kernel_rfl, fun w9 h9 => ?_⟩, fun HP7 => ?_⟩
        · obtain ⟨s1, s2, s3⟩ := h9; go_simp; first | done | rfl
        clear HP6
        refine R_pure 7 rfl (by kernel_rfl) HP7 ?_
        apply Exists.intro
        refine ⟨fun _ _ _ h => h, .inl ⟨by kernel_rfl, fun w9 h9 => ?_⟩, fun HP8 => ?_⟩
        · clear h9; go_simp; first | done | rfl
        clear HP7
        refine R_all [8] (by kernel_rfl) ?_
        refine AllR.cons (i := 8) rfl (fun K9 HK9 => ?_) ?_
        · go_simp
          refine (datom_any _ s).mono ?_
          rintro e w5 ⟨rfl, b5⟩
          have B5 := Kp.mk (bstep B0.out B0.out.size b5)
          clear b5
          refine HK9.out _ _ (.inr ⟨by have := (HC.out _ B5.out).1; exact this, (HC.out _ B5.out).2.1, (HC.out _ B5.out).2.2⟩) (fun HP9 => ?_)
          clear HK9 K9
          refine R_pure 9 rfl (by kernel_rfl) HP9 ?_
          apply Exists.intro
          refine ⟨fun _ _ _ h => h, .inl ⟨by kernel_rfl, fun w9 h9 => ?_⟩, fun HP10 => ?_⟩
          · clear h9; go_simp; first | done | rfl
          clear HP9
          refine R_pure 10 rfl (by kernel_rfl) HP10 ?_
          apply Exists.intro
          refine ⟨fun _ _ _ h => h, .inl ⟨by kernel_rfl, fun w9 h9 => ?_⟩, fun HP11 => ?_⟩
          · clear h9; go_simp; first | done | rfl
          clear HP10
          refine R_pure 11 rfl (by kernel_rfl) HP11 ?_
          apply Exists.intro
          refine ⟨fun _ _ _ h => h, .inl ⟨by kernel_rfl, fun w9 h9 => ?_⟩, fun HP12 => ?_⟩
          · clear h9; go_simp; first | done | rfl
          clear HP11
          refine R_done (by kernel_rfl) ?_
          go_wp2
          go_ret
          exact ⟨rfl, B5.out⟩
        exact AllR.nil
    · have hb : (k == 2) = false := by simpa using hk
      have E2 : Kp (isA [⟨k, n, t⟩] s = false) := ⟨by rw [E.out]; simp [hk]⟩
      rw [E2.out]
      clear hk
      go_enter Tryz.func37, Tryz.ntmps37
      go_wp2_with fail
      refine R_begin 999 (fun w9 => w9.cell? ⟨g, o, none⟩ = some (.int .i64 k) ∧ w9.cell? ⟨g, o + 1, none⟩ = some (.int .i64 n) ∧ w9.cell? ⟨g, o + 2, none⟩ = some (.string t)) (by kernel_rfl) (HC.out _ B0.out) (fun HP0 => ?_)
      refine R_pure 0 rfl (by kernel_rfl) HP0 ?_
      apply Exists.intro
      refine ⟨fun _ _ _ h => h, .inl ⟨by kernel_rfl, fun w9 h9 => ?_⟩, fun HP1 => ?_⟩
      · clear h9; go_simp; first | done | rfl
      clear HP0
      refine R_pure 1 rfl (by kernel_rfl) HP1 ?_
      apply Exists.intro
      refine ⟨fun _ _ _ h => h, .inl ⟨by kernel_rfl, fun w9 h9 => ?_⟩, fun HP2 => ?_⟩
      · clear h9; go_simp; first | done | rfl
      clear HP1
      refine R_pure 2 rfl (by kernel_rfl) HP2 ?_
      apply Exists.intro
      refine ⟨fun _ _ _ h => h, .inl ⟨by kernel_rfl, fun w9 h9 => ?_⟩, fun HP3 => ?_⟩
      · clear h9; go_simp; first | done | rfl
      clear HP2
      refine R_pure 3 rfl (by kernel_rfl) HP3 ?_
      apply Exists.intro
      refine ⟨fun _ _ _ h => h, .inl ⟨by kernel_rfl, fun w9 h9 => ?_⟩, fun HP4 => ?_⟩
      · clear h9; go_simp; first | done | rfl
      clear HP3
      refine R_pure 4 rfl (by kernel_rfl) HP4 ?_
      apply Exists.intro
      refine ⟨fun _ _ _ h => h, .inl ⟨by kernel_rfl, fun w9 h9 => ?_⟩, fun HP5 => ?_⟩
      · clear h9; go_simp; first | done | rfl
      clear HP4
      refine R_pure 5 rfl (by kernel_rfl) HP5 ?_
      apply Exists.intro
      refine ⟨fun _ _ _ h => h, .inl ⟨by kernel_rfl, fun w9 h9 => ?_⟩, fun HP6 => ?_⟩
      · clear h9; go_simp; first | done | rfl
      clear HP5
      refine R_take 6 rfl (by kernel_rfl) HP6 ?_
      apply Exists.intro
      refine ⟨fun _ _ _ h => h, .inl ⟨by kernel_rfl, fun w9 h9 => ?_⟩, fun HP7 => ?_⟩
      · obtain ⟨s1, s2, s3⟩ := h9; go_simp; first | done | rfl
      clear HP6
      refine R_pure 7 rfl (by kernel_rfl) HP7 ?_
      apply Exists.intro
      refine ⟨fun _ _ _ h => h, .inl ⟨by kernel_rfl, fun w9 h9 => ?_⟩, fun HP8 => ?_⟩
      · clear h9; go_simp; first | done | rfl
      clear HP7
      refine R_all [8] (by kernel_rfl) ?_
      refine AllR.cons (i := 8) rfl (fun K9 HK9 => ?_) ?_
      · go_simp
        refine (datom_any _ s).mono ?_
        rintro e w5 ⟨rfl, b5⟩
        have B5 := Kp.mk (bstep B0.out B0.out.size b5)
        clear b5
        refine HK9.out _ _ (.inr ⟨by have := (HC.out _ B5.out).1; exact this, (HC.out _ B5.out).2.1, (HC.out _ B5.out).2.2⟩) (fun HP9 => ?_)
        clear HK9 K9
        refine R_pure 9 rfl (by kernel_rfl) HP9 ?_
        apply Exists.intro
        refine ⟨fun _ _ _ h => h, .inl ⟨by kernel_rfl, fun w9 h9 => ?_⟩, fun HP10 => ?_⟩
        · clear h9; go_simp; first | done | rfl
        clear HP9
        refine R_pure 10 rfl (by kernel_rfl) HP10 ?_
        apply Exists.intro
        refine ⟨fun _ _ _ h => h, .inl ⟨by kernel_rfl, fun w9 h9 => ?_⟩, fun HP11 => ?_⟩
        · clear h9; go_simp; first | done | rfl
        clear HP10
        refine R_pure 11 rfl (by kernel_rfl) HP11 ?_
        apply Exists.intro
        refine ⟨fun _ _ _ h => h, .inl ⟨by kernel_rfl, fun w9 h9 => ?_⟩, fun HP12 => ?_⟩
        · clear h9; go_simp; first | done | rfl
        clear HP11
        refine R_done (by kernel_rfl) ?_
        go_wp2
        go_ret
        exact ⟨rfl, B5.out⟩
      exact AllR.nil
  · have hb : ((t.length : Int) == 1) = false := by rw [beq_eq_false_iff_ne]; omega
    have E2 := Kp.mk (isA_len (s := s) h1)
    rw [E2.out]
    clear h1
    go_enter Tryz.func37, Tryz.ntmps37
    go_wp2_with fail
    go_quiet (fail)
    go_wp2
    go_ret
    exact ⟨rfl, below_drewN (Below.refl _ _) _⟩
set_option maxRecDepth 100000 in
set_option maxHeartbeats 4000000 in
theorem told_any (w : World) (A B : Option Addr) (c d : Nat) (r head : List Ce) (hs : Src w eCe A c r) (hn : r.length ≤ 1024) (hh : Src w eCe B d head) (hl : head.length ≤ 5) :
    Calls Tryz.prog 65 #[.slice B head.length d, .slice A r.length c] w (TxPost w (msg head r)) := by
  have HS := Kp.mk hs
  have HH := Kp.mk hh
  clear hs
  obtain ⟨m, hm⟩ : ∃ m, m = head.length := ⟨_, rfl⟩
  have HM := Kp.mk hm
  obtain ⟨rl, hrl⟩ : ∃ rl, rl = r.length := ⟨_, rfl⟩
  have HRL := Kp.mk hrl
  rw [← hm, ← hrl]
  rw [← hm] at hl
  rw [← hrl] at hn
  have HE : Kp (msg head r = head ++ (if 1024 < m + rl then [atomC limitS] else r)) := ⟨by unfold msg; rw [← HM.out, ← HRL.out]⟩
  clear hm hrl
  have hown : Own w 63 eCe (.slice none 0 0) [] := Own.nil _ _ _
  go_enter Tryz.func65, Tryz.ntmps65
  go_upto_region 3 with (at_builtin; refine app_ev TCe rfl _ _ rfl hown rfl hh HM.out rfl (by simp only [List.length_nil]; have := HM.out; omega) (by simp only [List.length_nil]; have := HM.out; omega) ?_; intro A1 n1 c1 w2 a0 a1 a2 a3; rw [List.nil_append] at a1; have A1' := Kp.mk a1; have A2' := Kp.mk a2; have A3' := Kp.mk a3; have A0' := a0; clear a1 a2 a3)
  obtain rfl : n1 = m := by have h1 := A0'.out; simp only [List.length_nil] at h1; have := HM.out; omega
  have HB2 : Kp (Below w.heap.size w w2) := ⟨chg_below (Below.refl _ _) A2'.out (fun g hg => by cases hg) (Nat.le_refl _)⟩
  have HF2 : Kp (Fresh w (.slice A1 n1 c1)) := ⟨(Fresh.nil w 0 0).app (Nat.le_refl _) A3'.out⟩
  clear hown A0' hh
  by_cases hbig : 1024 < n1 + rl
  · have hbi : (1024 : Int) < (n1 : Int) + (rl : Int) := by omega
    rw [if_pos hbig] at HE
    clear hbig
    go_wp2_with (first
      | (go_at_call 64; refine (datom_any w2 limitS).mono ?_; rintro e w3 ⟨rfl, b3⟩; have HB3 := Kp.mk (bstep HB2.out HB2.out.size b3); have O2 := Kp.mk (A1'.out.below b3); clear b3)
      | (at_builtin; refine app1_ev TCe (atomC limitS) rfl _ _ rfl O2.out rfl rfl rfl rfl rfl (by have := HM.out; omega) (by have := HM.out; omega) ?_; intro A4 n4 c4 w4 d0 d1 d2 d3; have D1 := Kp.mk d1; have D2 := Kp.mk d2; have D3 := Kp.mk d3; clear d0 d1 d2 d3))
    go_ret
    refine ⟨_, rfl, by rw [HE.out]; exact D1.out, HF2.out.app HB3.out.size D3.out, chg_below HB3.out D2.out (fun g hg => HF2.out g hg) HB3.out.size⟩
  · have hbi : ¬ (1024 : Int) < (n1 : Int) + (rl : Int) := by omega
    rw [if_neg hbig] at HE
    have hs3 := HS.out.below HB2.out
    clear hbig
    go_wp2_with (at_builtin; refine app_ev TCe rfl _ _ rfl A1'.out rfl hs3 HRL.out rfl (by have := HM.out; have := HRL.out; omega) (by have := HM.out; have := HRL.out; omega) ?_; intro A4 n4 c4 w4 d0 d1 d2 d3; have D1 := Kp.mk d1; have D2 := Kp.mk d2; have D3 := Kp.mk d3; clear d0 d1 d2 d3)
    go_ret
    refine ⟨_, rfl, by rw [HE.out]; exact D1.out, HF2.out.app HB2.out.size D3.out, chg_below HB2.out D2.out (fun g hg => HF2.out g hg) HB2.out.size⟩
set_option maxRecDepth 100000 in
set_option maxHeartbeats 4000000 in
theorem dexit_any (w : World) (p : Int) (A : Option Addr) (c : Nat) (r : List Ce) (hs : Src w eCe A c r) (hn : r.length ≤ 9000000000000) (hG : TxG r) :
    Calls Tryz.prog 36 #[.int .i64 p, .slice A r.length c] w (RPost w (exitL p r) (exitE p r)) := by
  have HS := Kp.mk hs
  have HG := Kp.mk hG
  clear hs hG
  by_cases hpp : IsPid p
  rotate_left
  · have E0 : Kp (exitE p r = 1) := ⟨by unfold exitE; rw [if_neg (by rintro h; first | (obtain ⟨⟨h1, h2⟩, h3⟩ := h; first | exact absurd h1 ‹_› | exact absurd h2 ‹_› | exact absurd h3 ‹_›) | exact absurd h ‹_›)]⟩
    have E1 : Kp (exitL p r = []) := ⟨by unfold exitL; rw [if_neg (by rw [E0.out]; decide)]⟩
    rw [E0.out, E1.out]
    go_enter Tryz.func36, Tryz.ntmps36
    have hp : decide (IsPid p) = false := decide_eq_false hpp
    go_wp2_with (go_at_call 46; refine (dPid_any _ p).mono ?_; rintro e w1 ⟨rfl, rfl⟩; rw [hp])
    go_ret2
    exact ⟨_, rfl, Own.nil _ _ _, Fresh.nil _ _ _, Below.refl _ _⟩
  have hp : decide (IsPid p) = true := decide_eq_true hpp
  obtain ⟨E1, hE1⟩ : ∃ E1, E1 = (rightE r).1 := ⟨_, rfl⟩
  obtain ⟨E2, hE2⟩ : ∃ E2, E2 = (rightE r).2 := ⟨_, rfl⟩
  have hR := rright_any w A c r HS.out hn HG.out
  unfold rightV at hR
  rw [← hE1, ← hE2] at hR
  have EE : Kp (exitE p r = E1) := ⟨by unfold exitE; rw [if_pos hpp]; exact hE1.symm⟩
  have HR := Kp.mk hR
  clear hR
  by_cases h0 : E1 = 0
  · have hlen : r.length ≤ 1024 := (rightE_len (by rw [← hE1]; exact h0)).2
    have EL : Kp (exitL p r = exitM p r) := ⟨by unfold exitL; rw [if_pos (EE.out.trans h0)]⟩
    have E0 := Kp.mk h0
    rw [EL.out, EE.out, h0]
    have hb0 : (E1 != 0) = false := by simpa using h0
    clear h0 hE1 hE2
    go_enter Tryz.func36, Tryz.ntmps36
    go_wp2_with (first
      | (go_at_call 46; refine (dPid_any _ p).mono ?_; rintro e w1 ⟨rfl, rfl⟩; rw [hp])
      | (go_at_call 63; refine HR.out.mono ?_; rintro e w2 ⟨rfl, b2⟩; have HB2 := Kp.mk b2; clear b2)
      | (go_at_call 64; refine (datom_any _ _).mono ?_; rintro e w3 ⟨rfl, b3⟩; have HB3 := Kp.mk (bstep HB2.out HB2.out.size b3); clear b3)
      | (go_at_call 65; have hO := own_lit w3 eCe 63 #[.int .i64 5, .int .i64 3, .string emp, .int .i64 2, .int .i64 0, .string exitS, .int .i64 4, .int .i64 p, .string emp] [⟨5, 3, emp⟩, atomC exitS, ⟨4, p, emp⟩] rfl (by simp [maxLen]) rfl; have hBA := (Below.refl (w3).heap.size w3).alloc (Nat.le_refl _) (.cells #[.int .i64 5, .int .i64 3, .string emp, .int .i64 2, .int .i64 0, .string exitS, .int .i64 4, .int .i64 p, .string emp] 63); ((refine (told_any _ A _ c _ r [⟨5, 3, emp⟩, atomC exitS, ⟨4, p, emp⟩] ((HS.out.below HB3.out).below hBA) hlen (hO.src rfl) (by simp)).mono ?_); rintro e w9 ⟨v9, rfl, o9, f9, b9⟩; have O9 := Kp.mk o9; have F9 := Kp.mk f9; have HB9 := Kp.mk (bstep (bstep HB3.out HB3.out.size hBA) (bstep HB3.out HB3.out.size hBA).size b9); have HB8 := Kp.mk (bstep HB3.out HB3.out.size hBA); clear o9 f9 b9 hO hBA)))
    go_ret2
    exact ⟨_, rfl, O9.out, F9.out.up HB8.out.size, HB9.out⟩
  · have EL : Kp (exitL p r = []) := ⟨by unfold exitL; rw [if_neg (fun h => h0 (EE.out.symm.trans h))]⟩
    rw [EL.out, EE.out]
    have hb0 : (E1 != 0) = true := by simpa using h0
    clear h0 hE1 hE2
    go_enter Tryz.func36, Tryz.ntmps36
    go_wp2_with (first
      | (go_at_call 46; refine (dPid_any _ p).mono ?_; rintro e w1 ⟨rfl, rfl⟩; rw [hp])
      | (go_at_call 63; refine HR.out.mono ?_; rintro e w2 ⟨rfl, b2⟩; have HB2 := Kp.mk b2; clear b2))
    go_ret2
    exact ⟨_, rfl, Own.nil _ _ _, Fresh.nil _ _ _, HB2.out⟩
set_option maxRecDepth 100000 in
set_option maxHeartbeats 4000000 in
theorem ddown_any (w : World) (ref p : Int) (A : Option Addr) (c : Nat) (r : List Ce) (hs : Src w eCe A c r) (hn : r.length ≤ 9000000000000) (hG : TxG r) :
    Calls Tryz.prog 35 #[.int .i64 ref, .int .i64 p, .slice A r.length c] w (RPost w (downL ref p r) (downE ref p r)) := by
  have HS := Kp.mk hs
  have HG := Kp.mk hG
  clear hs hG
  by_cases hr1 : 1 ≤ ref
  rotate_left
  · have E0 : Kp (downE ref p r = 1) := ⟨by unfold downE; rw [if_neg (by rintro h; first | (obtain ⟨⟨h1, h2⟩, h3⟩ := h; first | exact absurd h1 ‹_› | exact absurd h2 ‹_› | exact absurd h3 ‹_›) | exact absurd h ‹_›)]⟩
    have E1 : Kp (downL ref p r = []) := ⟨by unfold downL; rw [if_neg (by rw [E0.out]; decide)]⟩
    rw [E0.out, E1.out]
    go_enter Tryz.func35, Tryz.ntmps35
    go_wp2
    go_ret2
    exact ⟨_, rfl, Own.nil _ _ _, Fresh.nil _ _ _, Below.refl _ _⟩
  by_cases hr2 : ref ≤ 281474976710656
  rotate_left
  · have E0 : Kp (downE ref p r = 1) := ⟨by unfold downE; rw [if_neg (by rintro h; first | (obtain ⟨⟨h1, h2⟩, h3⟩ := h; first | exact absurd h1 ‹_› | exact absurd h2 ‹_› | exact absurd h3 ‹_›) | exact absurd h ‹_›)]⟩
    have E1 : Kp (downL ref p r = []) := ⟨by unfold downL; rw [if_neg (by rw [E0.out]; decide)]⟩
    rw [E0.out, E1.out]
    go_enter Tryz.func35, Tryz.ntmps35
    go_wp2
    go_ret2
    exact ⟨_, rfl, Own.nil _ _ _, Fresh.nil _ _ _, Below.refl _ _⟩
  by_cases hpp : IsPid p
  rotate_left
  · have E0 : Kp (downE ref p r = 1) := ⟨by unfold downE; rw [if_neg (by rintro h; first | (obtain ⟨⟨h1, h2⟩, h3⟩ := h; first | exact absurd h1 ‹_› | exact absurd h2 ‹_› | exact absurd h3 ‹_›) | exact absurd h ‹_›)]⟩
    have E1 : Kp (downL ref p r = []) := ⟨by unfold downL; rw [if_neg (by rw [E0.out]; decide)]⟩
    rw [E0.out, E1.out]
    go_enter Tryz.func35, Tryz.ntmps35
    have hp : decide (IsPid p) = false := decide_eq_false hpp
    go_wp2_with (go_at_call 46; refine (dPid_any _ p).mono ?_; rintro e w1 ⟨rfl, rfl⟩; rw [hp])
    go_ret2
    exact ⟨_, rfl, Own.nil _ _ _, Fresh.nil _ _ _, Below.refl _ _⟩
  have hp : decide (IsPid p) = true := decide_eq_true hpp
  obtain ⟨E1, hE1⟩ : ∃ E1, E1 = (rightE r).1 := ⟨_, rfl⟩
  obtain ⟨E2, hE2⟩ : ∃ E2, E2 = (rightE r).2 := ⟨_, rfl⟩
  have hR := rright_any w A c r HS.out hn HG.out
  unfold rightV at hR
  rw [← hE1, ← hE2] at hR
  have EE : Kp (downE ref p r = E1) := ⟨by unfold downE; rw [if_pos ⟨⟨hr1, hr2⟩, hpp⟩]; exact hE1.symm⟩
  have HR := Kp.mk hR
  clear hR
  by_cases h0 : E1 = 0
  · have hlen : r.length ≤ 1024 := (rightE_len (by rw [← hE1]; exact h0)).2
    have EL : Kp (downL ref p r = downM ref p r) := ⟨by unfold downL; rw [if_pos (EE.out.trans h0)]⟩
    have E0 := Kp.mk h0
    rw [EL.out, EE.out, h0]
    have hb0 : (E1 != 0) = false := by simpa using h0
    clear h0 hE1 hE2
    go_enter Tryz.func35, Tryz.ntmps35
    go_wp2_with (first
      | (go_at_call 46; refine (dPid_any _ p).mono ?_; rintro e w1 ⟨rfl, rfl⟩; rw [hp])
      | (go_at_call 63; refine HR.out.mono ?_; rintro e w2 ⟨rfl, b2⟩; have HB2 := Kp.mk b2; clear b2)
      | (go_at_call 64; ((with_reducible refine (datom_any w2 _).mono ?_); rintro e w3 ⟨rfl, b3⟩; have HB3 := Kp.mk (bstep HB2.out HB2.out.size b3); clear b3))
      | (go_at_call 64; ((with_reducible refine (datom_any w3 _).mono ?_); rintro e w4 ⟨rfl, b4⟩; have HB4 := Kp.mk (bstep HB3.out HB3.out.size b4); clear b4))
      | (go_at_call 65; have hO := own_lit w4 eCe 63 #[.int .i64 5, .int .i64 5, .string emp, .int .i64 2, .int .i64 0, .string downS, .int .i64 3, .int .i64 ref, .string emp, .int .i64 2, .int .i64 0, .string processS, .int .i64 4, .int .i64 p, .string emp] [⟨5, 5, emp⟩, atomC downS, ⟨3, ref, emp⟩, atomC processS, ⟨4, p, emp⟩] rfl (by simp [maxLen]) rfl; have hBA := (Below.refl (w4).heap.size w4).alloc (Nat.le_refl _) (.cells #[.int .i64 5, .int .i64 5, .string emp, .int .i64 2, .int .i64 0, .string downS, .int .i64 3, .int .i64 ref, .string emp, .int .i64 2, .int .i64 0, .string processS, .int .i64 4, .int .i64 p, .string emp] 63); ((refine (told_any _ A _ c _ r [⟨5, 5, emp⟩, atomC downS, ⟨3, ref, emp⟩, atomC processS, ⟨4, p, emp⟩] ((HS.out.below HB4.out).below hBA) hlen (hO.src rfl) (by simp)).mono ?_); rintro e w9 ⟨v9, rfl, o9, f9, b9⟩; have O9 := Kp.mk o9; have F9 := Kp.mk f9; have HB9 := Kp.mk (bstep (bstep HB4.out HB4.out.size hBA) (bstep HB4.out HB4.out.size hBA).size b9); have HB8 := Kp.mk (bstep HB4.out HB4.out.size hBA); clear o9 f9 b9 hO hBA)))
    go_ret2
    exact ⟨_, rfl, O9.out, F9.out.up HB8.out.size, HB9.out⟩
  · have EL : Kp (downL ref p r = []) := ⟨by unfold downL; rw [if_neg (fun h => h0 (EE.out.symm.trans h))]⟩
    rw [EL.out, EE.out]
    have hb0 : (E1 != 0) = true := by simpa using h0
    clear h0 hE1 hE2
    go_enter Tryz.func35, Tryz.ntmps35
    go_wp2_with (first
      | (go_at_call 46; refine (dPid_any _ p).mono ?_; rintro e w1 ⟨rfl, rfl⟩; rw [hp])
      | (go_at_call 63; refine HR.out.mono ?_; rintro e w2 ⟨rfl, b2⟩; have HB2 := Kp.mk b2; clear b2))
    go_ret2
    exact ⟨_, rfl, Own.nil _ _ _, Fresh.nil _ _ _, HB2.out⟩
end Go.Proofs.YtameidoaenoppaaGreatDoor
