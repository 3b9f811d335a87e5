/- LinksEnd walked: it answers true; its bounds stand in the statement. -/
import Derived.Test.YtlbbheopoflmjaaLo
namespace Go.Proofs.Ytlbbheopoflmjaa
open Go.RowKit

theorem below_drewN (w : World) (n : Nat) : Below w.heap.size w (w.drewN n) := ⟨rfl, rfl, rfl, Nat.le_refl _, fun _ _ => rfl⟩
theorem isOf_left {pid : Int} {ns : List NB} {x : Bd} (h : x ∈ sn (leftN pid ns)) : isOf pid x = false := by
  rw [← leftL_eq] at h
  have := (List.mem_filter.1 h).2
  simpa using this
theorem told_left (pid : Int) (ns : List NB) : told pid (sn (leftN pid ns)) = [] := by
  unfold told
  rw [List.filter_eq_nil_iff]
  intro x hx
  rw [isOf_left hx]
  simp
theorem sel_left (pid : Int) (ns : List NB) : sel (isOf pid) (leftN pid ns) = [] := by
  unfold sel
  rw [List.filter_eq_nil_iff]
  intro x hx
  rw [isOf_left hx]
  simp
theorem left_left (pid : Int) (ns : List NB) : leftN pid (leftN pid ns) = leftN pid ns := by
  unfold leftN
  rw [List.filter_filter]
  simp
theorem len_parts (f : Bd → Bool) (l : List Bd) : (l.filter f).length + (l.filter (fun x => !f x)).length = l.length := by
  induction l with
  | nil => rfl
  | cons x l ih =>
    rw [List.filter_cons, List.filter_cons]
    cases f x <;> simp <;> omega
theorem told_mem {pid : Int} {ns : List NB} {last : Int} (hG : GOk ns last) {x : Bd} (h : x ∈ told pid (sn ns)) : (x.r = 0 ∧ (x.a = pid ∨ x.b = pid)) ∨ (0 < x.r ∧ x.b = pid ∧ x.a ≠ pid) := by
  obtain ⟨h1, h2⟩ := List.mem_filter.1 h
  rw [Bool.and_eq_true] at h2
  have h3 : x.a = pid ∨ x.b = pid := of_decide_eq_true h2.1
  have h4 : x.r = 0 ∨ (x.b = pid ∧ x.a ≠ pid) := of_decide_eq_true h2.2
  have h5 := (hG.goodL x h1).2.2
  rcases h4 with h4 | h4
  · exact .inl ⟨h4, h3⟩
  · by_cases h0 : x.r = 0
    · exact .inl ⟨h0, h3⟩
    · exact .inr ⟨by omega, h4⟩
set_option maxRecDepth 100000 in
set_option maxHeartbeats 8000000 in
theorem linksEnd_any (w : World) (ops : List OpM) (pid : Int) (A : Option Addr) (c : Nat) (hs : Src w eOp A c ops) (hr : ∀ o ∈ ops, In64 o.ref) (hn : ops.length ≤ 9000000000000) :
    Calls Try.prog 4 #[.slice A ops.length c, .int .i64 pid] w fun e w' => e = .returned (.bool true) ∧ Below w.heap.size w w' := by
  have LA := Kp.mk (laid_any w ops A c hs hr hn)
  clear hs hr
  go_enter Try.func4, Try.ntmps4
  go_wp2_with fail
  refine LA.out.mono ?_
  rintro e w1 ⟨p, bm, lm, rm, q, lv, ns, last, rfl, hT, hl⟩
  have T1 := Kp.mk hT
  have HL : Kp (last ≤ 900000000000000000) := ⟨by omega⟩
  have HN := Kp.mk hT.g.ok.n1024
  clear hT hl LA
  go_wp2_with fail
  refine (dof_any _ q lv (sn ns) pid T1.out.d (by have := HN.out; omega)).mono ?_
  rintro e w2 ⟨v, rfl, ho, hf, hb⟩
  obtain ⟨A2, c2, hv, _⟩ := ho.shape
  subst hv
  have T2 := Kp.mk (T1.out.below hb)
  obtain ⟨n2, hn2⟩ : ∃ n2, n2 = ((sn ns).filter (isOf pid)).length := ⟨_, rfl⟩
  rw [← hn2]
  have HN2 := Kp.mk hn2
  have hn2b : n2 ≤ 1024 := by have := List.length_filter_le (isOf pid) (sn ns); have := HN.out; omega
  clear ho hf hb hn2
  cases hp : decide (IsPid pid)
  · go_wp2_with (first
      | (go_at_call 19; refine (end_bad _ p pid hp).mono ?_; rintro e w3 ⟨rfl, rfl⟩)
      | (go_at_call 20; refine (dPid_any _ pid).mono ?_; rintro e w3 ⟨rfl, rfl⟩; rw [hp]))
    go_quiet (fail)
    go_wp2
    refine wp_loop_rounds 1 ?_
    rw [rounds_succ]
    go_wp2_with (go_at_call 16; refine (awake_any _).mono ?_; rintro e w5 ⟨rfl, hb5⟩; have B5 := Kp.mk hb5; clear hb5)
    go_ret
    exact ⟨rfl, bstep T2.out.bel T2.out.bel.size ((below_drewN _ _).trans B5.out)⟩
  · go_wp2_with fail
    refine (end_any sortC _ p bm lm rm ns last pid T2.out.g (by have := HL.out; omega) hp).mono ?_
    rintro e w3 ⟨v3, rfl, ho3, hf3, hc3, hg3⟩
    obtain ⟨A3, c3, hv3, _⟩ := ho3.shape
    subst hv3
    have D3 := Kp.mk (T2.out.dturn hc3)
    have G3 := Kp.mk hg3
    have C3 := Kp.mk hc3
    have O3 := Kp.mk ho3
    have F3 := Kp.mk hf3
    obtain ⟨n3, hn3⟩ : ∃ n3, n3 = (told pid (sn ns)).length := ⟨_, rfl⟩
    have hn3b : n3 ≤ 1024 := by have := told_len pid (sn ns); have := HN.out; omega
    rw [← hn3] at O3 F3 ⊢
    have HN3 := Kp.mk hn3
    clear ho3 hf3 hc3 hg3 hn3
    go_wp2_with fail
    refine (end_any sortC _ p bm lm rm (leftN pid ns) last pid G3.out (by have := HL.out; omega) hp).mono ?_
    rintro e w4 ⟨v4, rfl, ho4, hf4, hc4, hg4⟩
    obtain ⟨A4, c4, hv4, _⟩ := ho4.shape
    subst hv4
    rw [told_left, left_left] at *
    have hFG : Kp (∀ g, FG p bm lm rm g → g < w2.heap.size) := ⟨T2.out.g.g.lt⟩
    have D4 := Kp.mk (D3.out.frame hc4 (fun k h2 h1 => apart G3.out D3.out k h1 h2))
    have G4 := Kp.mk hg4
    have O4 := Kp.mk (O3.out.frame hc4 (fun g hg hF => by have h1 := hFG.out _ hF; have h2 := F3.out _ hg; omega))
    have B4 : Kp (Below w.heap.size w w4) := ⟨chg_below (chg_below T2.out.bel C3.out T2.out.fg T2.out.bel.size) hc4 T2.out.fg (Nat.le_trans T2.out.bel.size C3.out.size)⟩
    obtain ⟨Ad, cd, hvd, q4⟩ := D4.out.sh
    have HVD := Kp.mk hvd
    have hsum := len_parts (isOf pid) (sn ns)
    have hll : Kp ((leftN pid ns).length = (sn ns).length - n2) := ⟨by
      have e : (leftN pid ns).length = ((sn ns).filter (fun x => !isOf pid x)).length := by
        have := congrArg List.length (leftL_eq ns pid)
        rw [List.length_map] at this
        exact this.symm
      rw [← HN2.out] at hsum
      omega⟩
    have OF := Kp.mk (of_all (G4.out.below (Below.refl _ w4).drew) HL.out pid)
    have e5 : (sn (leftN pid ns)).filter (isOf pid) = [] := sel_left pid ns
    rw [e5] at OF
    clear e5
    obtain ⟨N1, hN1⟩ : ∃ N1, N1 = (sn ns).length := ⟨_, rfl⟩
    obtain ⟨N2, hN2⟩ : ∃ N2, N2 = (leftN pid ns).length := ⟨_, rfl⟩
    rw [← hN1] at q4 hll HN
    rw [← hN1, ← HN2.out] at hsum
    have HNN := Kp.mk hN1
    have hN1b : N1 ≤ 1024 := HN.out
    have hn2N : n2 ≤ N1 := by omega
    have q4l := D4.out.lt
    have HN22 := Kp.mk hN2
    clear ho4 hf4 hc4 hg4 hvd hN1 hsum hN2
    have hww : IntKind.i64.wrap ((N1 : Int) - (n2 : Int)) = (N1 : Int) - (n2 : Int) := by rw [IntKind.wrap_i64]; omega
    have hdd : (((N1 : Int) - (n2 : Int)) != ((N1 : Int) - (n2 : Int))) = false := by simp
    have hnil : ([] : List Bd).length = 0 := rfl
    rw [hnil]
    clear hnil
    go_upto_region 9 with fail
    refine R_begin 999 (fun w9 => w9.cell? ⟨q, 0, none⟩ = some (.slice Ad N1 cd)) (by kernel_rfl) q4 (fun HP0 => ?_)
    refine R_pure 0 rfl (by kernel_rfl) HP0 ?_
    apply Exists.intro
    refine ⟨fun _ _ _ h => h, .inl ⟨by kernel_rfl, fun w9 h9 => ?_⟩, fun HP1 => ?_⟩
    · clear h9; go_simp; first | done | rfl
    clear HP0
    refine R_pure 1 rfl (by kernel_rfl) HP1 ?_
    apply Exists.intro
    refine ⟨fun _ _ _ h => h, .inl ⟨by kernel_rfl, fun w9 h9 => ?_⟩, fun HP2 => ?_⟩
    · clear h9; go_simp; first | done | rfl
    clear HP1
    refine R_pure 2 rfl (by kernel_rfl) HP2 ?_
    apply Exists.intro
    refine ⟨fun _ _ _ h => h, .inl ⟨by kernel_rfl, fun w9 h9 => ?_⟩, fun HP3 => ?_⟩
    · clear h9; go_simp; first | done | rfl
    clear HP2
    refine R_pure 3 rfl (by kernel_rfl) HP3 ?_
    apply Exists.intro
    refine ⟨fun _ _ _ h => h, .inl ⟨by kernel_rfl, fun w9 h9 => ?_⟩, fun HP4 => ?_⟩
    · clear h9; go_simp; first | done | rfl
    clear HP3
    refine R_pure 4 rfl (by kernel_rfl) HP4 ?_
    apply Exists.intro
    refine ⟨fun _ _ _ h => h, .inl ⟨by kernel_rfl, fun w9 h9 => ?_⟩, fun HP5 => ?_⟩
    · clear h9; go_simp; first | done | rfl
    clear HP4
    refine R_pure 5 rfl (by kernel_rfl) HP5 ?_
    apply Exists.intro
    refine ⟨fun _ _ _ h => h, .inl ⟨by kernel_rfl, fun w9 h9 => ?_⟩, fun HP6 => ?_⟩
    · clear h9; go_simp; first | done | rfl
    clear HP5
    refine R_pure 6 rfl (by kernel_rfl) HP6 ?_
    apply Exists.intro
    refine ⟨fun _ _ _ h => h, .inl ⟨by kernel_rfl, fun w9 h9 => ?_⟩, fun HP7 => ?_⟩
    · clear h9; go_simp; first | done | rfl
    clear HP6
    refine R_pure 7 rfl (by kernel_rfl) HP7 ?_
    apply Exists.intro
    refine ⟨fun _ _ _ h => h, .inl ⟨by kernel_rfl, fun w9 h9 => ?_⟩, fun HP8 => ?_⟩
    · clear h9; go_simp; first | done | rfl
    clear HP7
    refine R_pure 8 rfl (by kernel_rfl) HP8 ?_
    apply Exists.intro
    refine ⟨fun _ _ _ h => h, .inl ⟨by kernel_rfl, fun w9 h9 => ?_⟩, fun HP9 => ?_⟩
    · clear h9; go_simp; first | done | rfl
    clear HP8
    refine R_all [9] (by kernel_rfl) ?_
    refine AllR.cons (i := 9) rfl (fun K9 HK9 => ?_) ?_
    · go_simp
      refine OF.out.mono ?_
      rintro e w5 ⟨v5, rfl, ho5, hf5, hb5⟩
      obtain ⟨A5, c5, hv5, _⟩ := ho5.shape
      subst hv5
      have B5 := Kp.mk hb5
      have q5 := (hb5.cell (p := ⟨q, 0, none⟩) q4l).trans q4
      clear ho5 hf5 hb5
      go_simp
      refine HK9.out _ _ (.inr q5) (fun HP10 => ?_)
      clear HK9 K9
      refine R_pure 10 rfl (by kernel_rfl) HP10 ?_
      apply Exists.intro
      refine ⟨fun _ _ _ h => h, .inl ⟨by kernel_rfl, fun w9 h9 => ?_⟩, fun HP11 => ?_⟩
      · clear h9; go_simp; first | done | rfl
      clear HP10
      refine R_pure 11 rfl (by kernel_rfl) HP11 ?_
      apply Exists.intro
      refine ⟨fun _ _ _ h => h, .inl ⟨by kernel_rfl, fun w9 h9 => ?_⟩, fun HP12 => ?_⟩
      · clear h9; go_simp; first | done | rfl
      clear HP11
      refine R_pure 12 rfl (by kernel_rfl) HP12 ?_
      apply Exists.intro
      refine ⟨fun _ _ _ h => h, .inl ⟨by kernel_rfl, fun w9 h9 => ?_⟩, fun HP13 => ?_⟩
      · clear h9; go_simp; first | done | rfl
      clear HP12
      refine R_pure 13 rfl (by kernel_rfl) HP13 ?_
      apply Exists.intro
      refine ⟨fun _ _ _ h => h, .inl ⟨by kernel_rfl, fun w9 h9 => ?_⟩, fun HP14 => ?_⟩
      · clear h9; go_simp; first | done | rfl
      clear HP13
      refine R_pure 14 rfl (by kernel_rfl) HP14 ?_
      apply Exists.intro
      refine ⟨fun _ _ _ h => h, .inl ⟨by kernel_rfl, fun w9 h9 => ?_⟩, fun HP15 => ?_⟩
      · clear h9; go_simp; first | done | rfl
      clear HP14
      refine R_pure 15 rfl (by kernel_rfl) HP15 ?_
      apply Exists.intro
      refine ⟨fun _ _ _ h => h, .inl ⟨by kernel_rfl, fun w9 h9 => ?_⟩, fun HP16 => ?_⟩
      · clear h9; go_simp; first | done | rfl
      clear HP15
      refine R_pure 16 rfl (by kernel_rfl) HP16 ?_
      apply Exists.intro
      refine ⟨fun _ _ _ h => h, .inl ⟨by kernel_rfl, fun w9 h9 => ?_⟩, fun HP17 => ?_⟩
      · clear h9; go_simp; first | done | rfl
      clear HP16
      refine R_pure 17 rfl (by kernel_rfl) HP17 ?_
      apply Exists.intro
      refine ⟨fun _ _ _ h => h, .inl ⟨by kernel_rfl, fun w9 h9 => ?_⟩, fun HP18 => ?_⟩
      · clear h9; go_simp; first | done | rfl
      clear HP17
      refine R_pure 18 rfl (by kernel_rfl) HP18 ?_
      apply Exists.intro
      refine ⟨fun _ _ _ h => h, .inl ⟨by kernel_rfl, fun w9 h9 => ?_⟩, fun HP19 => ?_⟩
      · clear h9; go_simp; first | done | rfl
      clear HP18
      refine R_pure 20 rfl (by kernel_rfl) HP19 ?_
      apply Exists.intro
      refine ⟨fun _ _ _ h => h, .inl ⟨by kernel_rfl, fun w9 h9 => ?_⟩, fun HP20 => ?_⟩
      · clear h9; go_simp; first | done | rfl
      clear HP19
      refine R_pure 21 rfl (by kernel_rfl) HP20 ?_
      apply Exists.intro
      refine ⟨fun _ _ _ h => h, .inl ⟨by kernel_rfl, fun w9 h9 => ?_⟩, fun HP21 => ?_⟩
      · clear h9; go_simp; first | done | rfl
      clear HP20
      refine R_pure 22 rfl (by kernel_rfl) HP21 ?_
      apply Exists.intro
      refine ⟨fun _ _ _ h => h, .inl ⟨by kernel_rfl, fun w9 h9 => ?_⟩, fun HP22 => ?_⟩
      · clear h9; go_simp; first | done | rfl
      clear HP21
      refine R_take 23 rfl (by kernel_rfl) HP22 ?_
      apply Exists.intro
      refine ⟨fun _ _ _ h => h, .inl ⟨by kernel_rfl, fun w9 h9 => ?_⟩, fun HP23 => ?_⟩
      · obtain s1 := h9; go_simp; first | done | rfl
      clear HP22
      refine R_pure 24 rfl (by kernel_rfl) HP23 ?_
      apply Exists.intro
      refine ⟨fun _ _ _ h => h, .inl ⟨by kernel_rfl, fun w9 h9 => ?_⟩, fun HP24 => ?_⟩
      · clear h9; go_simp; first | done | rfl
      clear HP23
      refine R_pure 25 rfl (by kernel_rfl) HP24 ?_
      apply Exists.intro
      refine ⟨fun _ _ _ h => h, .inl ⟨by kernel_rfl, fun w9 h9 => ?_⟩, fun HP25 => ?_⟩
      · clear h9; go_simp; first | done | rfl
      clear HP24
      refine R_pure 26 rfl (by kernel_rfl) HP25 ?_
      apply Exists.intro
      refine ⟨fun _ _ _ h => h, .inl ⟨by kernel_rfl, fun w9 h9 => ?_⟩, fun HP26 => ?_⟩
      · clear h9; go_simp; first | done | rfl
      clear HP25
      refine R_pure 27 rfl (by kernel_rfl) HP26 ?_
      apply Exists.intro
      refine ⟨fun _ _ _ h => h, .inl ⟨by kernel_rfl, fun w9 h9 => ?_⟩, fun HP27 => ?_⟩
      · clear h9; go_simp; first | done | rfl
      clear HP26
      refine R_all [19] (by kernel_rfl) ?_
      refine AllR.cons (i := 19) rfl (fun K9 HK9 => ?_) ?_
      · go_simp
        refine (len_any _ p bm lm rm (leftN pid ns) last (G4.out.below ((Below.refl _ _).drew.trans B5.out))).mono ?_
        rintro e w6 ⟨rfl, rfl⟩
        rw [hll.out, show ((N1 - n2 : Nat) : Int) = (N1 : Int) - (n2 : Int) by clear hww hdd; omega]
        go_simp
        refine HK9.out _ _ (.inr q5) (fun HP28 => ?_)
        clear HK9 K9
        refine R_pure 28 rfl (by kernel_rfl) HP28 ?_
        apply Exists.intro
        refine ⟨fun _ _ _ h => h, .inl ⟨by kernel_rfl, fun w9 h9 => ?_⟩, fun HP29 => ?_⟩
        · clear h9; go_simp; first | done | rfl
        clear HP28
        refine R_pure 29 rfl (by kernel_rfl) HP29 ?_
        apply Exists.intro
        refine ⟨fun _ _ _ h => h, .inl ⟨by kernel_rfl, fun w9 h9 => ?_⟩, fun HP30 => ?_⟩
        · clear h9; go_simp; first | done | rfl
        clear HP29
        refine R_pure 30 rfl (by kernel_rfl) HP30 ?_
        apply Exists.intro
        refine ⟨fun _ _ _ h => h, .inl ⟨by kernel_rfl, fun w9 h9 => ?_⟩, fun HP31 => ?_⟩
        · clear h9; go_simp; first | done | rfl
        clear HP30
        refine R_done (by kernel_rfl) ?_
        clear hww
        have B6 : Kp (Below w.heap.size w w5) := ⟨bstep B4.out B4.out.size ((Below.refl _ _).drew.trans B5.out)⟩
        have O6 := Kp.mk (O4.out.below ((Below.refl _ _).drew.trans B5.out))
        have TM := Kp.mk (fun (x : Bd) (hx : x ∈ told pid (sn ns)) => told_mem T2.out.g.ok hx)
        obtain ⟨tl, htl⟩ : ∃ tl, tl = told pid (sn ns) := ⟨_, rfl⟩
        rw [← htl] at O6 HN3 TM
        clear htl
        go_wp2
        go_loopw [13, 85] (fun _ i wr => ∃ (k : Nat), k ≤ n3 ∧ i = .int .i64 k ∧ Kp (Below w5.heap.size w5 wr)) (fun _ i _ => n3 - (intOf i).toNat)
        case atStart => exact ⟨0, Nat.zero_le _, rfl, ⟨Below.refl _ _⟩⟩
        case round =>
          obtain ⟨k, hk, rfl, HB⟩ := hrel
          by_cases hlt : k < n3
          · obtain ⟨A9, c9, hv9, _, _, h0, h1⟩ := O6.out.shape
            obtain ⟨g, rfl⟩ : ∃ g, A3 = some ⟨g, 0, none⟩ := by
              injection hv9 with e1 _ _
              subst e1
              cases A3 with
              | none => have := (h0 rfl).1; have h2 := HN3.out; rw [this] at h2; simp at h2; omega
              | some y => obtain ⟨g, rfl⟩ := h1 y rfl; exact ⟨g, rfl⟩
            clear hv9 h0 h1
            have hkt : k < tl.length := by have := HN3.out; omega
            obtain ⟨b0, b1, b2⟩ := (O6.out.below HB.out).bd k hkt
            have hx := TM.out _ (List.getElem_mem hkt)
            obtain ⟨x, hxe⟩ : ∃ x, x = tl[k] := ⟨_, rfl⟩
            rw [← hxe] at b0 b1 b2 hx
            have k0 : (0 : Int) ≤ (k : Int) := by omega
            have k1 : (k : Int) < (n3 : Int) := by omega
            have hbs := HB.out.size
            clear hxe hkt
            rcases hx with ⟨h0, h1 | h1⟩ | ⟨h0, h1, h2⟩
            · have d1 : (x.r == 0) = true := by simpa using h0
              have d2 : (x.a != pid) = false := by simpa using h1
              have d3 : decide (x.r > 0) = false := by simp; omega
              clear h0 h1
              go_wp2
              go_roundw
              case rel => exact ⟨k + 1, by omega, by go_num, ⟨HB.out.alloc hbs _⟩⟩
              case measure => simp [intOf]; omega
            · have d1 : (x.r == 0) = true := by simpa using h0
              have d2 : (x.b != pid) = false := by simpa using h1
              have d3 : decide (x.r > 0) = false := by simp; omega
              clear h0 h1
              cases d4 : (x.a != pid)
              · go_wp2
                go_roundw
                case rel => exact ⟨k + 1, by omega, by go_num, ⟨HB.out.alloc hbs _⟩⟩
                case measure => simp [intOf]; omega
              · go_wp2
                go_roundw
                case rel => exact ⟨k + 1, by omega, by go_num, ⟨HB.out.alloc hbs _⟩⟩
                case measure => simp [intOf]; omega
            · have d1 : (x.r == 0) = false := by simp; omega
              have d2 : (x.b != pid) = false := by simpa using h1
              have d3 : decide (x.r > 0) = true := by simp; omega
              have d4 : (x.a == pid) = false := by simpa using h2
              clear h0 h1 h2
              go_wp2
              go_roundw
              case rel => exact ⟨k + 1, by omega, by go_num, ⟨HB.out.alloc hbs _⟩⟩
              case measure => simp [intOf]; omega
          · obtain rfl : k = n3 := by omega
            go_wp2_with (go_at_call 16; refine (awake_any _).mono ?_; rintro e w9 ⟨rfl, hb9⟩; have B9 := Kp.mk hb9; clear hb9)
            go_ret
            have hb := bstep B6.out B6.out.size HB.out
            exact ⟨rfl, bstep hb hb.size B9.out⟩
      exact AllR.nil
    exact AllR.nil
end Go.Proofs.Ytlbbheopoflmjaa
