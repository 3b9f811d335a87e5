/- The document's Link and Watch of package links; bounds stand in each statement. -/
import Derived.Test.YtameidoaenoppaaGreatDoorLRb
import Derived.Test.YtameidoaenoppaaGreatDoorLR
namespace Go.Proofs.YtameidoaenoppaaGreatDoor
open Go.RowKit

section
variable {α : Type} {w : World} {E : El α} {A : Option Addr} {c c' : Nat} {l : List α}
theorem El.flat_take (E : El α) (l : List α) (i : Nat) (j : Nat) (u : Value) (h : (E.flat (l.take i))[j]? = some u) : (E.flat l)[j]? = some u := by
  have e : E.flat l = E.flat (l.take i) ++ E.flat (l.drop i) := by rw [← E.flat_append, List.take_append_drop]
  rw [e, List.getElem?_append_left (List.getElem?_eq_some_iff.1 h).1]
  exact h
theorem El.flat_drop (E : El α) (l : List α) (i : Nat) (hi : i ≤ l.length) (j : Nat) : (E.flat (l.drop i))[j]? = (E.flat l)[i * E.k + j]? := by
  have e : E.flat l = E.flat (l.take i) ++ E.flat (l.drop i) := by rw [← E.flat_append, List.take_append_drop]
  have hl : (E.flat (l.take i)).length = i * E.k := by rw [E.flat_length, List.length_take, Nat.min_eq_left hi]
  rw [e, List.getElem?_append_right (by omega), hl, Nat.add_sub_cancel_left]
theorem Src.take (h : Src w E A c l) (i : Nat) : Src w E A c (l.take i) :=
  ⟨fun ad ha j u hu => h.cell ad ha j u (E.flat_take l i j u hu), fun ha => by rw [(h.none ha).1]; exact ⟨List.take_nil, (h.none ha).2⟩⟩
theorem Src.drop {g o : Nat} (h : Src w E (some ⟨g, o, Option.none⟩) c l) (i : Nat) (hi : i ≤ l.length) : Src w E (some ⟨g, o + i * E.k, Option.none⟩) c' (l.drop i) :=
  ⟨fun ad ha j u hu => by
    cases ha
    rw [E.flat_drop l i hi] at hu
    have := h.cell _ rfl _ u hu
    rw [Addr.add_lit] at this ⊢
    rw [Nat.add_assoc]
    exact this, fun ha => by cases ha⟩
theorem Src.empty {ad : Addr} : Src w E (some ad) c ([] : List α) := ⟨fun _ _ j u hu => by simp [El.flat] at hu, fun ha => by cases ha⟩
end
def FD (q : Nat) (lv : Value) : Nat → Prop := fun g => g = q ∨ lv.ownBlock = some g
section
variable {w w' : World} {q : Nat} {lv : Value} {L : List Bd}
theorem IsD.lt (h : IsD w q lv L) : q < w.heap.size := lt_of_block h.blk
theorem IsD.ne (h : IsD w q lv L) : lv.ownBlock ≠ some q := h.own.ne h.blk (by decide)
theorem IsD.sh (h : IsD w q lv L) : ∃ A c, lv = .slice A L.length c ∧ w.cell? ⟨q, 0, none⟩ = some (.slice A L.length c) := by
  obtain ⟨A, c, hv, _⟩ := h.own.shape
  exact ⟨A, c, hv, by rw [← hv]; exact h.c0⟩
theorem IsD.frame (h : IsD w q lv L) {F : Nat → Prop} (hc : Chg F w w') (hF : ∀ g, FD q lv g → ¬ F g) : IsD w' q lv L := ⟨hc.at h.blk (hF _ (.inl rfl)), h.own.frame hc (fun _ hg => hF _ (.inr hg))⟩
end
def pairB (a b : Int) : Bd := ⟨min a b, max a b, 0⟩
def dLinkE (L : List Bd) (a b : Int) : Int := if twoE a b ≠ 0 then 1 else if pairB a b ∈ L then 6 else if 1024 ≤ L.length then 8 else 0
def dLinkL (L : List Bd) (a b : Int) : List Bd := if dLinkE L a b = 0 then L ++ [pairB a b] else L
/-- What a step of the document's graph leaves. -/
def DStep (w : World) (q : Nat) (lv : Value) (L' : List Bd) (w' : World) : Prop := ∃ lv', IsD w' q lv' L' ∧ Chg (FD q lv) w w' ∧ ∀ g, lv'.ownBlock = some g → lv.ownBlock = some g ∨ w.heap.size ≤ g
theorem DStep.same {w w' : World} {q : Nat} {lv : Value} {L : List Bd} (h : IsD w q lv L) (hb : Below w.heap.size w w') : DStep w q lv L w' := ⟨lv, h.below hb, Chg.of_below hb _, fun _ h => .inl h⟩
theorem twoE_bad {a b : Int} (h : ¬ (IsPid a ∧ IsPid b ∧ a ≠ b)) : twoE a b = 1 := by unfold twoE; rw [if_neg h]
theorem two_cases (a b : Int) : (decide (IsPid a) = false) ∨ (decide (IsPid a) = true ∧ decide (IsPid b) = false) ∨ (decide (IsPid a) = true ∧ decide (IsPid b) = true ∧ a = b) ∨ (decide (IsPid a) = true ∧ decide (IsPid b) = true ∧ a ≠ b) := by
  cases h1 : decide (IsPid a)
  · exact .inl rfl
  · cases h2 : decide (IsPid b)
    · exact .inr (.inl ⟨rfl, rfl⟩)
    · by_cases h3 : a = b
      · exact .inr (.inr (.inl ⟨rfl, rfl, h3⟩))
      · exact .inr (.inr (.inr ⟨rfl, rfl, h3⟩))
theorem AtB.nonneg {L : List Bd} {b : Bd} {k : Int} (h : AtB L b k) (hm : b ∈ L) : 0 ≤ k ∧ ∃ i : Nat, k = i ∧ L[i]? = some b := by
  rcases h with ⟨i, rfl, h1, _⟩ | ⟨_, h1⟩
  · exact ⟨by omega, i, rfl, h1⟩
  · exact absurd hm h1
theorem AtB.neg {L : List Bd} {b : Bd} {k : Int} (h : AtB L b k) (hm : b ∉ L) : k = -1 := by
  rcases h with ⟨i, rfl, h1, _⟩ | ⟨h1, _⟩
  · exact absurd (List.mem_of_getElem? h1) hm
  · exact h1
set_option maxRecDepth 100000 in
set_option maxHeartbeats 4000000 in
theorem dlink_any (w : World) (q : Nat) (lv : Value) (L : List Bd) (a b : Int) (h : IsD w q lv L) (hn : L.length ≤ 1000000) :
    Calls Tryz.prog 21 #[.pointer (some ⟨q, 0, none⟩), .int .i64 a, .int .i64 b] w fun e w' => e = .returned (.int .i64 (dLinkE L a b)) ∧ DStep w q lv (dLinkL L a b) w' := by
  have H := Kp.mk h
  have bad : twoE a b = 1 → Kp (dLinkE L a b = 1 ∧ dLinkL L a b = L) := fun e => ⟨by
    have e1 : dLinkE L a b = 1 := by unfold dLinkE; rw [if_pos (by rw [e]; decide)]
    exact ⟨e1, by unfold dLinkL; rw [if_neg (by rw [e1]; decide)]⟩⟩
  have BAD := Kp.mk bad
  clear h bad
  rcases two_cases a b with h1 | ⟨h1, h2⟩ | ⟨h1, h2, h3⟩ | ⟨h1, h2, h3⟩
  · have hE := BAD.out (twoE_bad fun h => of_decide_eq_false h1 h.1)
    go_enter Tryz.func21, Tryz.ntmps21
    go_wp2_with (go_at_call 46; refine (dPid_any _ a).mono ?_; rintro e w' ⟨rfl, rfl⟩; rw [h1])
    go_ret
    exact ⟨by rw [hE.out.1]; rfl, by rw [hE.out.2]; exact DStep.same H.out (Below.refl _ _)⟩
  · have hE := BAD.out (twoE_bad fun h => of_decide_eq_false h2 h.2.1)
    go_enter Tryz.func21, Tryz.ntmps21
    go_wp2_with (first | (go_at_call 46; refine (dPid_any _ a).mono ?_; rintro e w' ⟨rfl, rfl⟩; rw [h1]) | (go_at_call 46; refine (dPid_any _ b).mono ?_; rintro e w' ⟨rfl, rfl⟩; rw [h2]))
    go_ret
    exact ⟨by rw [hE.out.1]; rfl, by rw [hE.out.2]; exact DStep.same H.out (Below.refl _ _)⟩
  · have hE := BAD.out (twoE_bad fun h => h.2.2 h3)
    subst h3
    go_enter Tryz.func21, Tryz.ntmps21
    go_wp2_with (go_at_call 46; refine (dPid_any _ a).mono ?_; rintro e w' ⟨rfl, rfl⟩; rw [h1])
    go_ret
    exact ⟨by rw [hE.out.1]; rfl, by rw [hE.out.2]; exact DStep.same H.out (Below.refl _ _)⟩
  · have ht : twoE a b = 0 := by unfold twoE; rw [if_pos ⟨of_decide_eq_true h1, of_decide_eq_true h2, h3⟩]
    have hq : (a == b) = false := by simpa using h3
    clear h3
    by_cases hm : pairB a b ∈ L
    · have hE : Kp (dLinkE L a b = 6 ∧ dLinkL L a b = L) := ⟨by
        have e1 : dLinkE L a b = 6 := by unfold dLinkE; rw [if_neg (by rw [ht]; decide), if_pos hm]
        exact ⟨e1, by unfold dLinkL; rw [if_neg (by rw [e1]; decide)]⟩⟩
      have HM := Kp.mk hm
      clear hm ht
      go_enter Tryz.func21, Tryz.ntmps21
      go_wp2_with (first
        | (go_at_call 46; refine (dPid_any _ a).mono ?_; rintro e w' ⟨rfl, rfl⟩; rw [h1])
        | (go_at_call 46; refine (dPid_any _ b).mono ?_; rintro e w' ⟨rfl, rfl⟩; rw [h2])
        | (go_at_call 51; refine (dpair_any _ a b).mono ?_; rintro e w1 ⟨rfl, hb1⟩; have HB1 := Kp.mk hb1; clear hb1)
        | (go_at_call 50; refine (place_any _ q lv L ⟨min a b, max a b, 0⟩ (H.out.below HB1.out) hn).mono ?_; rintro e w2 ⟨k, hk, rfl, hb2⟩; have hk0 := (hk.nonneg HM.out).1; have HB2 := Kp.mk hb2; clear hk hb2))
      go_ret
      exact ⟨by rw [hE.out.1]; rfl, by rw [hE.out.2]; exact DStep.same H.out (bstep HB1.out HB1.out.size HB2.out)⟩
    · have HM := Kp.mk hm
      obtain ⟨A, c, HV, q0⟩ := H.out.sh
      by_cases hf : 1024 ≤ L.length
      · have hE : Kp (dLinkE L a b = 8 ∧ dLinkL L a b = L) := ⟨by
          have e1 : dLinkE L a b = 8 := by unfold dLinkE; rw [if_neg (by rw [ht]; decide), if_neg hm, if_pos hf]
          exact ⟨e1, by unfold dLinkL; rw [if_neg (by rw [e1]; decide)]⟩⟩
        have hd : decide (1024 ≤ L.length) = true := by simpa using hf
        have hql := H.out.lt
        clear hm ht HV
        go_enter Tryz.func21, Tryz.ntmps21
        go_wp2_with (first
          | (go_at_call 46; refine (dPid_any _ a).mono ?_; rintro e w' ⟨rfl, rfl⟩; rw [h1])
          | (go_at_call 46; refine (dPid_any _ b).mono ?_; rintro e w' ⟨rfl, rfl⟩; rw [h2])
          | (go_at_call 51; refine (dpair_any _ a b).mono ?_; rintro e w1 ⟨rfl, hb1⟩; have HB1 := Kp.mk hb1; clear hb1)
          | (go_at_call 50; refine (place_any _ q lv L ⟨min a b, max a b, 0⟩ (H.out.below HB1.out) hn).mono ?_; rintro e w2 ⟨k, hk, rfl, hb2⟩; obtain rfl := hk.neg HM.out; have HB2 := Kp.mk (bstep HB1.out HB1.out.size hb2); have q2 := (HB2.out.cell (p := ⟨q, 0, none⟩) hql).trans q0; have ql2 := Nat.lt_of_lt_of_le hql HB2.out.size; clear hk hb2))
        go_ret
        exact ⟨by rw [hE.out.1]; rfl, by rw [hE.out.2]; exact DStep.same H.out HB2.out⟩
      · have hE : Kp (dLinkE L a b = 0 ∧ dLinkL L a b = L ++ [pairB a b]) := ⟨by
          have e1 : dLinkE L a b = 0 := by unfold dLinkE; rw [if_neg (by rw [ht]; decide), if_neg hm, if_neg hf]
          exact ⟨e1, by unfold dLinkL; rw [if_pos e1]⟩⟩
        have hd : decide (1024 ≤ L.length) = false := by simpa using hf
        have hql := H.out.lt
        have HVv := Kp.mk HV
        clear hm ht HV
        go_enter Tryz.func21, Tryz.ntmps21
        go_upto_region 7 with (first
          | (go_at_call 46; refine (dPid_any _ a).mono ?_; rintro e w' ⟨rfl, rfl⟩; rw [h1])
          | (go_at_call 46; refine (dPid_any _ b).mono ?_; rintro e w' ⟨rfl, rfl⟩; rw [h2])
          | (go_at_call 51; refine (dpair_any _ a b).mono ?_; rintro e w1 ⟨rfl, hb1⟩; have HB1 := Kp.mk hb1; clear hb1)
          | (go_at_call 50; refine (place_any _ q lv L ⟨min a b, max a b, 0⟩ (H.out.below HB1.out) hn).mono ?_; rintro e w2 ⟨k, hk, rfl, hb2⟩; obtain rfl := hk.neg HM.out; have HB2 := Kp.mk (bstep HB1.out HB1.out.size hb2); have q2 := (HB2.out.cell (p := ⟨q, 0, none⟩) hql).trans q0; have ql2 := Nat.lt_of_lt_of_le hql HB2.out.size; clear hk hb2))
        have H2 := H.out.below HB2.out
        have HH2 := Kp.mk H2
        clear H2
        refine R_begin 12 (fun w9 => w9.cell? ⟨q, 0, none⟩ = some (.slice A L.length c)) (by kernel_rfl) q2 (fun HP0 => ?_)
        refine R_pure 0 rfl (by kernel_rfl) HP0 ?_
        apply Exists.intro
        refine ⟨fun _ _ _ h => h, .inl ⟨by kernel_rfl, fun w9 h9 => ?_⟩, fun HP1 => ?_⟩
        · clear h9; go_simp; first | done | rfl
        clear HP0
        refine R_pure 1 rfl (by kernel_rfl) HP1 ?_
        apply Exists.intro
        refine ⟨fun _ _ _ h => h, .inl ⟨by kernel_rfl, fun w9 h9 => ?_⟩, fun HP2 => ?_⟩
        · clear h9; go_simp; first | done | rfl
        clear HP1
        refine R_pure 2 rfl (by kernel_rfl) HP2 ?_
        apply Exists.intro
        refine ⟨fun _ _ _ h => h, .inl ⟨by kernel_rfl, fun w9 h9 => ?_⟩, fun HP3 => ?_⟩
        · clear h9; go_simp; first | done | rfl
        clear HP2
        refine R_pure 3 rfl (by kernel_rfl) HP3 ?_
        apply Exists.intro
        refine ⟨fun _ _ _ h => h, .inl ⟨by kernel_rfl, fun w9 h9 => ?_⟩, fun HP4 => ?_⟩
        · clear h9; go_simp; first | done | rfl
        clear HP3
        refine R_take 4 rfl (by kernel_rfl) HP4 ?_
        apply Exists.intro
        refine ⟨fun _ _ _ h => h, .inl ⟨by kernel_rfl, fun w9 h9 => ?_⟩, fun HP5 => ?_⟩
        · obtain s1 := h9; go_simp; first | done | rfl
        clear HP4
        refine R_pure 5 rfl (by kernel_rfl) HP5 ?_
        apply Exists.intro
        refine ⟨fun _ _ _ h => h, .inl ⟨by kernel_rfl, fun w9 h9 => ?_⟩, fun HP6 => ?_⟩
        · clear h9; go_simp; first | done | rfl
        clear HP5
        refine R_pure 6 rfl (by kernel_rfl) HP6 ?_
        apply Exists.intro
        refine ⟨fun _ _ _ h => h, .inl ⟨by kernel_rfl, fun w9 h9 => ?_⟩, fun HP7 => ?_⟩
        · clear h9; go_simp; first | done | rfl
        clear HP6
        refine R_all [7] (by kernel_rfl) ?_
        refine AllR.cons (i := 7) rfl (fun K9 HK9 => ?_) ?_
        · go_simp
          refine (dpair_any _ a b).mono ?_
          rintro e w3 ⟨rfl, hb3⟩
          have H3 := Kp.mk (HH2.out.below ((Below.refl _ _).drew.trans hb3))
          have HB3 := Kp.mk (bstep HB2.out HB2.out.size ((Below.refl _ _).drew.trans hb3))
          have q3 := (hb3.cell (p := ⟨q, 0, none⟩) ql2).trans q2
          have ql3 := Nat.lt_of_lt_of_le ql2 hb3.size
          have o3 := H3.out.own
          rw [HVv.out] at o3
          clear hb3
          go_simp
          refine HK9.out _ _ (.inr q3) (fun HP8 => ?_)
          clear HK9 K9
          refine R_all [8] (by kernel_rfl) ?_
          refine AllR.cons (i := 8) rfl (fun K9 HK9 => ?_) ?_
          · go_simp
            refine HK9.out _ _ (.inr ((blk_c (blk_alloc H3.out.blk _) 0).trans (congrArg some HVv.out))) (fun HP9 => ?_)
            clear HK9 K9
            refine R_all [9] (by kernel_rfl) ?_
            refine AllR.cons (i := 9) rfl (fun K9 HK9 => ?_) ?_
            · refine app1_step T27 ⟨min a b, max a b, 0⟩ rfl _ _ rfl o3 rfl rfl rfl (by simp) rfl (by omega) (by omega) ?_
              intro A' n' c' w4 a0 a1 a2 a3
              have B4 := a2.at H3.out.blk (HVv.out ▸ H3.out.ne)
              have q4 := blk_c B4 0
              have f4 := blk_f B4 0
              have l4 := lt_of_block B4
              rw [HVv.out] at q4
              refine HK9.out _ _ (.inr q4) (fun HP10 => ?_)
              clear HK9 K9
              refine R_pure 10 rfl (by kernel_rfl) HP10 ?_
              apply Exists.intro
              refine ⟨fun _ _ _ h => h, .inl ⟨by kernel_rfl, fun w9 h9 => ?_⟩, fun HP11 => ?_⟩
              · clear h9; go_simp; first | done | rfl
              clear HP10
              refine R_pure 11 rfl (by kernel_rfl) HP11 ?_
              apply Exists.intro
              refine ⟨fun _ _ _ h => h, .inl ⟨by kernel_rfl, fun w9 h9 => ?_⟩, fun HP12 => ?_⟩
              · clear h9; go_simp; first | done | rfl
              clear HP11
              refine R_all [12] (by kernel_rfl) ?_
              refine AllR.cons (i := 12) rfl (fun K9 HK9 => ?_) ?_
              · go_simp
                refine HK9.out _ _ (.inl (by kernel_rfl)) (fun HP13 => ?_)
                clear HK9 K9
                refine R_done (by kernel_rfl) ?_
                have D4 := IsD.set B4 a1
                have HD4 := Kp.mk D4
                have C4 : Kp (Chg (FD q lv) w w4) := ⟨(Chg.of_below HB3.out (FD q lv)).trans a2 (fun g hg hF => .inr (by rw [HVv.out]; exact hF))⟩
                have A3 := Kp.mk a3
                clear D4 a0 a1 a2 a3
                go_wp2
                go_ret
                refine ⟨by rw [hE.out.1]; rfl, ?_⟩
                rw [hE.out.2]
                refine ⟨_, HD4.out, C4.out.set (p := ⟨q, 0, none⟩) (.inl (.inl rfl)) _, fun g hg => ?_⟩
                rcases A3.out with h | ⟨g', h, h5⟩
                · exact .inl (by rw [HVv.out, ← h]; exact hg)
                · rw [h] at hg; cases hg
                  exact .inr (Nat.le_trans HB3.out.size h5)
              exact AllR.nil
            exact AllR.nil
          exact AllR.nil
        exact AllR.nil

theorem DStep.pre {w w1 w' : World} {q : Nat} {lv : Value} {L' : List Bd} (hb : Below w.heap.size w w1) (h : DStep w1 q lv L' w') : DStep w q lv L' w' := by
  obtain ⟨lv', h1, h2, h3⟩ := h
  exact ⟨lv', h1, (Chg.of_below hb _).then h2, fun g hg => (h3 g hg).elim .inl fun h => .inr (Nat.le_trans hb.size h)⟩
def watchOk (r a b : Int) : Prop := 1 ≤ r ∧ r ≤ 281474976710656 ∧ IsPid a ∧ IsPid b
instance (r a b : Int) : Decidable (watchOk r a b) := inferInstanceAs (Decidable (_ ∧ _))
def hasR (L : List Bd) (r : Int) : Prop := ∃ x ∈ L, x.r = r
instance (L : List Bd) (r : Int) : Decidable (hasR L r) := inferInstanceAs (Decidable (∃ x ∈ L, x.r = r))
def dWatchE (L : List Bd) (r a b : Int) : Int := if ¬ watchOk r a b then 1 else if hasR L r then 6 else if 1024 ≤ L.length then 8 else 0
def dWatchL (L : List Bd) (r a b : Int) : List Bd := if dWatchE L r a b = 0 then L ++ [⟨a, b, r⟩] else L
theorem AtR.nonneg {L : List Bd} {r k : Int} (h : AtR L r k) (hr : 0 < r) (hm : hasR L r) : 0 ≤ k := by
  rcases h with ⟨i, rfl, _⟩ | ⟨_, h1⟩
  · omega
  · obtain ⟨x, hx, e⟩ := hm
    exact absurd e (h1 hr x hx)
theorem AtR.neg {L : List Bd} {r k : Int} (h : AtR L r k) (hm : ¬ hasR L r) : k = -1 := by
  rcases h with ⟨i, rfl, _, ⟨x, h1, h2⟩, _⟩ | ⟨h1, _⟩
  · exact absurd ⟨x, List.mem_of_getElem? h1, h2⟩ hm
  · exact h1
set_option maxRecDepth 100000 in
set_option maxHeartbeats 8000000 in
theorem dwatchG_any (w : World) (q : Nat) (lv : Value) (L : List Bd) (r a b : Int) (h : IsD w q lv L) (hn : L.length ≤ 1000000) :
    Calls Tryz.prog 19 #[.pointer (some ⟨q, 0, none⟩), .int .i64 r, .int .i64 a, .int .i64 b] w fun e w' => e = .returned (.int .i64 (dWatchE L r a b)) ∧ DStep w q lv (dWatchL L r a b) w' := by
  have H := Kp.mk h
  have bad : ¬ watchOk r a b → Kp (dWatchE L r a b = 1 ∧ dWatchL L r a b = L) := fun e => ⟨by
    have e1 : dWatchE L r a b = 1 := by unfold dWatchE; rw [if_pos e]
    exact ⟨e1, by unfold dWatchL; rw [if_neg (by rw [e1]; decide)]⟩⟩
  have BAD := Kp.mk bad
  clear h bad
  by_cases r1 : r < 1
  · have hE := BAD.out (fun h => by have := h.1; omega)
    go_enter Tryz.func19, Tryz.ntmps19
    go_wp2
    go_ret
    exact ⟨by rw [hE.out.1]; rfl, by rw [hE.out.2]; exact DStep.same H.out (Below.refl _ _)⟩
  · have d1 : decide (r < 1) = false := by simpa using r1
    by_cases r2 : 281474976710656 < r
    · have hE := BAD.out (fun h => by have := h.2.1; omega)
      have d2 : decide (r > 281474976710656) = true := by simpa using r2
      go_enter Tryz.func19, Tryz.ntmps19
      go_wp2
      go_ret
      exact ⟨by rw [hE.out.1]; rfl, by rw [hE.out.2]; exact DStep.same H.out (Below.refl _ _)⟩
    · have d2 : decide (r > 281474976710656) = false := by simpa using r2
      cases h1 : decide (IsPid a)
      · have hE := BAD.out (fun h => of_decide_eq_false h1 h.2.2.1)
        go_enter Tryz.func19, Tryz.ntmps19
        go_wp2_with (go_at_call 46; refine (dPid_any _ a).mono ?_; rintro e w' ⟨rfl, rfl⟩; rw [h1])
        go_ret
        exact ⟨by rw [hE.out.1]; rfl, by rw [hE.out.2]; exact DStep.same H.out (Below.refl _ _)⟩
      · cases h2 : decide (IsPid b)
        · have hE := BAD.out (fun h => of_decide_eq_false h2 h.2.2.2)
          go_enter Tryz.func19, Tryz.ntmps19
          go_wp2_with (first | (go_at_call 46; refine (dPid_any _ a).mono ?_; rintro e w' ⟨rfl, rfl⟩; rw [h1]) | (go_at_call 46; refine (dPid_any _ b).mono ?_; rintro e w' ⟨rfl, rfl⟩; rw [h2]))
          go_ret
          exact ⟨by rw [hE.out.1]; rfl, by rw [hE.out.2]; exact DStep.same H.out (Below.refl _ _)⟩
        · have hok : watchOk r a b := ⟨by omega, by omega, of_decide_eq_true h1, of_decide_eq_true h2⟩
          by_cases hm : hasR L r
          · have hE : Kp (dWatchE L r a b = 6 ∧ dWatchL L r a b = L) := ⟨by
              have e1 : dWatchE L r a b = 6 := by unfold dWatchE; rw [if_neg (fun h => h hok), if_pos hm]
              exact ⟨e1, by unfold dWatchL; rw [if_neg (by rw [e1]; decide)]⟩⟩
            have HM := Kp.mk hm
            have hr0 : 0 < r := by omega
            clear hm hok
            go_enter Tryz.func19, Tryz.ntmps19
            go_wp2_with (first
              | (go_at_call 46; refine (dPid_any _ a).mono ?_; rintro e w' ⟨rfl, rfl⟩; rw [h1])
              | (go_at_call 46; refine (dPid_any _ b).mono ?_; rintro e w' ⟨rfl, rfl⟩; rw [h2])
              | (go_at_call 47; refine (dwatch_any _ q lv L r H.out hn).mono ?_; rintro e w2 ⟨k, hk, rfl, hb2⟩; have hk0 := hk.nonneg hr0 HM.out; have HB2 := Kp.mk hb2; clear hk hb2))
            go_ret
            exact ⟨by rw [hE.out.1]; rfl, by rw [hE.out.2]; exact DStep.same H.out HB2.out⟩
          · have HM := Kp.mk hm
            obtain ⟨A, c, HV, q0⟩ := H.out.sh
            by_cases hf : 1024 ≤ L.length
            · have hE : Kp (dWatchE L r a b = 8 ∧ dWatchL L r a b = L) := ⟨by
                have e1 : dWatchE L r a b = 8 := by unfold dWatchE; rw [if_neg (fun h => h hok), if_neg hm, if_pos hf]
                exact ⟨e1, by unfold dWatchL; rw [if_neg (by rw [e1]; decide)]⟩⟩
              have hd : decide (1024 ≤ L.length) = true := by simpa using hf
              have hql := H.out.lt
              clear hm hok HV
              go_enter Tryz.func19, Tryz.ntmps19
              go_wp2_with (first
                | (go_at_call 46; refine (dPid_any _ a).mono ?_; rintro e w' ⟨rfl, rfl⟩; rw [h1])
                | (go_at_call 46; refine (dPid_any _ b).mono ?_; rintro e w' ⟨rfl, rfl⟩; rw [h2])
                | (go_at_call 47; refine (dwatch_any _ q lv L r H.out hn).mono ?_; rintro e w2 ⟨k, hk, rfl, hb2⟩; obtain rfl := hk.neg HM.out; have HB2 := Kp.mk hb2; have q2 := (hb2.cell (p := ⟨q, 0, none⟩) hql).trans q0; have ql2 := Nat.lt_of_lt_of_le hql hb2.size; clear hk hb2))
              go_ret
              exact ⟨by rw [hE.out.1]; rfl, by rw [hE.out.2]; exact DStep.same H.out HB2.out⟩
            · have hE : Kp (dWatchE L r a b = 0 ∧ dWatchL L r a b = L ++ [⟨a, b, r⟩]) := ⟨by
                have e1 : dWatchE L r a b = 0 := by unfold dWatchE; rw [if_neg (fun h => h hok), if_neg hm, if_neg hf]
                exact ⟨e1, by unfold dWatchL; rw [if_pos e1]⟩⟩
              have hd : decide (1024 ≤ L.length) = false := by simpa using hf
              have hql := H.out.lt
              have HVv := Kp.mk HV
              clear hm hok HV
              go_enter Tryz.func19, Tryz.ntmps19
              go_wp2_with (first
                | (go_at_call 46; refine (dPid_any _ a).mono ?_; rintro e w' ⟨rfl, rfl⟩; rw [h1])
                | (go_at_call 46; refine (dPid_any _ b).mono ?_; rintro e w' ⟨rfl, rfl⟩; rw [h2])
                | (go_at_call 47; refine (dwatch_any _ q lv L r H.out hn).mono ?_; rintro e w2 ⟨k, hk, rfl, hb2⟩; obtain rfl := hk.neg HM.out; have HB2 := Kp.mk hb2; have H2 := Kp.mk (H.out.below hb2); have q2 := (hb2.cell (p := ⟨q, 0, none⟩) hql).trans q0; have ql2 := Nat.lt_of_lt_of_le hql hb2.size; have o2 := H2.out.own; rw [HVv.out] at o2; clear hk hb2)
                | (at_builtin; refine app1_ev T27 ⟨a, b, r⟩ rfl _ _ rfl o2 rfl rfl rfl (by simp) rfl (by omega) (by omega) ?_; intro A' n' c' w4 a0 a1 a2 a3; have B4 := a2.at H2.out.blk (HVv.out ▸ H2.out.ne); have q4 := blk_c B4 0; have f4 := blk_f B4 0; have l4 := lt_of_block B4; have HD4 := Kp.mk (IsD.set B4 a1); have C4 : Kp (Chg (FD q lv) w w4) := ⟨(Chg.of_below HB2.out (FD q lv)).trans a2 (fun g hg hF => .inr (by rw [HVv.out]; exact hF))⟩; have A3 := Kp.mk a3; clear a0 a1 a2 a3))
              go_ret
              refine ⟨by rw [hE.out.1]; rfl, ?_⟩
              rw [hE.out.2]
              refine ⟨_, HD4.out, C4.out.set (p := ⟨q, 0, none⟩) (.inl (.inl rfl)) _, fun g hg => ?_⟩
              rcases A3.out with h | ⟨g', h, h5⟩
              · exact .inl (by rw [HVv.out, ← h]; exact hg)
              · rw [h] at hg; cases hg
                exact .inr (Nat.le_trans HB2.out.size h5)
end Go.Proofs.YtameidoaenoppaaGreatDoor
