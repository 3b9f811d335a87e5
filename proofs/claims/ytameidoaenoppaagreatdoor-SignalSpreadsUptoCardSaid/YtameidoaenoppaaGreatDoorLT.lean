/- What Watch of package links does; bounds stand in each statement. -/
import Derived.Test.YtameidoaenoppaaGreatDoorLR
namespace Go.Proofs.YtameidoaenoppaaGreatDoor
open Go.RowKit

def watchA (r a b : Int) : Bool := decide (r < 1) || decide (281474976710656 < r) || !decide (IsPid a) || !decide (IsPid b)
def watchE (ns : List NB) (r a b : Int) : Int := if watchA r a b = true then 1 else if (look (refsE ns) r).isSome = true then 6 else if 1024 ≤ ns.length then 8 else 0
def watchN (ns : List NB) (last r a b : Int) : List NB := ns ++ [(last + 1, ⟨a, b, r⟩)]
theorem watchA_0 {r a b : Int} (h : watchA r a b = false) : 1 ≤ r ∧ r ≤ 281474976710656 ∧ IsPid a ∧ IsPid b := by
  unfold watchA at h
  simp only [Bool.or_eq_false_iff, decide_eq_false_iff_not, Bool.not_eq_false', decide_eq_true_eq] at h
  obtain ⟨⟨⟨h1, h2⟩, h3⟩, h4⟩ := h
  exact ⟨by omega, by omega, h3, h4⟩
theorem GOk.watch {ns : List NB} {last r a b : Int} (h : GOk ns last) (e : watchE ns r a b = 0) : GOk (watchN ns last r a b) (last + 1) := by
  unfold watchE at e
  split at e
  · cases e
  · rename_i h0
    split at e
    · cases e
    · rename_i h1
      split at e
      · cases e
      · rename_i h2
        obtain ⟨r1, r2, p1, p2⟩ := watchA_0 (by simpa using h0)
        have hno : ∀ p ∈ ns, p.2.r ≠ 0 → p.2.r ≠ r := by
          intro p hp hr e
          apply h1
          have : look (refsE ns) r = some (.int .i64 p.1) := (look_refs h).2 ⟨by omega, p.1, p.2.a, p.2.b, by rw [← e]; exact hp, rfl⟩
          rw [this]; rfl
        have hnn : ∀ q ∈ [((last + 1, ⟨a, b, r⟩) : NB)], q = (last + 1, ⟨a, b, r⟩) := fun q hq => List.mem_singleton.1 hq
        refine ⟨?_, ?_, by have := h.last0; omega, ?_, ?_, ?_, by unfold watchN; simp; omega⟩
        · refine List.pairwise_append.2 ⟨h.rise, List.pairwise_singleton _ _, fun p hp q hq => ?_⟩
          rw [hnn q hq]; have := (h.top p hp).2; simp only; omega
        · intro p hp
          rcases List.mem_append.1 hp with hp | hp
          · have := h.top p hp; omega
          · rw [hnn p hp]; have := h.last0; simp only; omega
        · intro p hp
          rcases List.mem_append.1 hp with hp | hp
          · exact h.good p hp
          · rw [hnn p hp]; exact ⟨p1, p2, .inr ⟨r1, r2⟩⟩
        · refine List.pairwise_append.2 ⟨h.pairs, List.pairwise_singleton _ _, fun p hp q hq _ hr => ?_⟩
          rw [hnn q hq] at hr; simp only at hr; omega
        · refine List.pairwise_append.2 ⟨h.refs, List.pairwise_singleton _ _, fun p hp q hq hr => ?_⟩
          rw [hnn q hq]; exact hno p hp hr
def WatchPost (w : World) (p bm lm rm : Nat) (ns : List NB) (last r a b : Int) (e : Ending) (w' : World) : Prop :=
  e = .returned (.int .i64 (watchE ns r a b)) ∧ Chg (FG p bm lm rm) w w' ∧ ((watchE ns r a b ≠ 0 ∧ IsG w' p bm lm rm ns last) ∨ (watchE ns r a b = 0 ∧ IsG w' p bm lm rm (watchN ns last r a b) (last + 1)))
set_option maxRecDepth 100000 in
set_option maxHeartbeats 4000000 in
theorem watch_any (w : World) (p bm lm rm : Nat) (ns : List NB) (last r a b : Int) (h : IsG w p bm lm rm ns last) (hl : last ≤ 900000000000000000) :
    Calls Tryz.prog 18 #[.pointer (some ⟨p, 0, none⟩), .int .i64 r, .int .i64 a, .int .i64 b] w (WatchPost w p bm lm rm ns last r a b) := by
  have H := Kp.mk h
  clear h
  cases hw : watchA r a b with
  | true =>
    have hE : Kp (watchE ns r a b = 1) := ⟨by unfold watchE; rw [if_pos hw]⟩
    have hc : (r < 1) ∨ (¬ r < 1 ∧ 281474976710656 < r) ∨ (¬ r < 1 ∧ ¬ 281474976710656 < r ∧ decide (IsPid a) = false) ∨ (¬ r < 1 ∧ ¬ 281474976710656 < r ∧ decide (IsPid a) = true ∧ decide (IsPid b) = false) := by
      unfold watchA at hw
      by_cases h1 : r < 1
      · exact .inl h1
      · by_cases h2 : 281474976710656 < r
        · exact .inr (.inl ⟨h1, h2⟩)
        · cases h3 : decide (IsPid a)
          · exact .inr (.inr (.inl ⟨h1, h2, rfl⟩))
          · cases h4 : decide (IsPid b)
            · exact .inr (.inr (.inr ⟨h1, h2, rfl, rfl⟩))
            · rw [h3, h4] at hw; simp [h1, h2] at hw
    clear hw
    rcases hc with h1 | ⟨h1, h2⟩ | ⟨h1, h2, h3⟩ | ⟨h1, h2, h3, h4⟩
    all_goals
      go_enter Tryz.func18, Tryz.ntmps18
      go_wp2_with (first
        | (go_at_call 44; refine (isPid_any _ a).mono ?_; rintro e w' ⟨rfl, rfl⟩; rw [h3])
        | (go_at_call 44; refine (isPid_any _ b).mono ?_; rintro e w' ⟨rfl, rfl⟩; rw [h4]))
      go_ret
      exact ⟨by rw [hE.out]; rfl, Chg.refl _ _, .inl ⟨by rw [hE.out]; decide, H.out⟩⟩
  | false =>
    obtain ⟨r1, r2, p1, p2⟩ := watchA_0 hw
    have hE : Kp (watchE ns r a b = if (look (refsE ns) r).isSome = true then 6 else if 1024 ≤ ns.length then 8 else 0) := ⟨by unfold watchE; rw [if_neg (by rw [hw]; decide)]⟩
    have OKR : Kp (K2.ok r) := ⟨ok2 r (by omega) (by omega)⟩
    have h1 : ¬ r < 1 := by omega
    have h2 : ¬ 281474976710656 < r := by omega
    have h3 : decide (IsPid a) = true := decide_eq_true p1
    have h4 : decide (IsPid b) = true := decide_eq_true p2
    have hlk : (Instr.lookup 85 (.map (some rm)) (.int .i64 r) false).run Tryz.prog w = .ok ((look (refsE ns) r).getD (.int .i64 0)) w := H.out.g.mr.get Tryz.underlying85 (Tryz.zeroValue2 w) r OKR.out
    have q0 := H.out.g.c0
    have q1 := lt_of_block H.out.g.blk
    have q3 := H.out.g.c3
    have HL := Kp.mk hl
    have R0 : Kp (r ≠ 0) := ⟨by omega⟩
    clear hw hl r1 r2 p1 p2
    cases hlo : look (refsE ns) r with
    | some v =>
      obtain ⟨_, n, xa, xb, hn, rfl⟩ := (look_refs H.out.ok).1 hlo
      have hn1 : 1 ≤ n := (H.out.ok.top _ hn).1
      have hE6 : Kp (watchE ns r a b = 6) := ⟨by rw [hE.out, hlo]; rfl⟩
      rw [hlo] at hlk
      have hlk' : (Instr.lookup 85 (.map (some rm)) (.int .i64 r) false).run Tryz.prog w = .ok (.int .i64 n) w := hlk
      have hnz : (n != 0) = true := by simp; omega
      clear hlo hn hlk
      go_enter Tryz.func18, Tryz.ntmps18
      go_wp2_with (first
        | (go_at_call 44; refine (isPid_any _ a).mono ?_; rintro e w' ⟨rfl, rfl⟩; rw [h3])
        | (go_at_call 44; refine (isPid_any _ b).mono ?_; rintro e w' ⟨rfl, rfl⟩; rw [h4]))
      go_ret
      exact ⟨by rw [hE6.out]; rfl, Chg.refl _ _, .inl ⟨by rw [hE6.out]; decide, H.out⟩⟩
    | none =>
      rw [hlo] at hlk
      have hlk' : (Instr.lookup 85 (.map (some rm)) (.int .i64 r) false).run Tryz.prog w = .ok (.int .i64 0) w := hlk
      have q5 := H.out.g.mb.len Tryz.underlying83 3
      rw [bonds_len] at q5
      have HLO := Kp.mk hlo
      clear hlk
      by_cases hfull : 1024 ≤ ns.length
      · have hfd : decide (1024 ≤ ns.length) = true := by simpa using hfull
        have hE8 : Kp (watchE ns r a b = 8) := ⟨by rw [hE.out, HLO.out]; simp [hfull]⟩
        clear hlo
        go_enter Tryz.func18, Tryz.ntmps18
        go_wp2_with (first
          | (go_at_call 44; refine (isPid_any _ a).mono ?_; rintro e w' ⟨rfl, rfl⟩; rw [h3])
          | (go_at_call 44; refine (isPid_any _ b).mono ?_; rintro e w' ⟨rfl, rfl⟩; rw [h4]))
        go_ret
        exact ⟨by rw [hE8.out]; rfl, Chg.refl _ _, .inl ⟨by rw [hE8.out]; decide, H.out⟩⟩
      · have hfd : decide (1024 ≤ ns.length) = false := by simpa using hfull
        have hE0 : Kp (watchE ns r a b = 0) := ⟨by rw [hE.out, HLO.out]; simp [hfull]⟩
        clear hlo
        go_enter Tryz.func18, Tryz.ntmps18
        go_upto_region 9 with (first
          | (go_at_call 44; refine (isPid_any _ a).mono ?_; rintro e w' ⟨rfl, rfl⟩; rw [h3])
          | (go_at_call 44; refine (isPid_any _ b).mono ?_; rintro e w' ⟨rfl, rfl⟩; rw [h4]))
        refine R_begin 11 (fun w9 => w9.cell? ⟨p, 3, none⟩ = some (.map (some rm))) (by kernel_rfl) H.out.g.drew.c3 (fun HP0 => ?_)
        refine R_pure 0 rfl (by kernel_rfl) HP0 ?_
        apply Exists.intro
        refine ⟨fun _ _ _ h => h, .inl ⟨by kernel_rfl, fun w9 h9 => ?_⟩, fun HP1 => ?_⟩
        · clear h9; go_simp; first | done | rfl
        clear HP0
        refine R_pure 1 rfl (by kernel_rfl) HP1 ?_
        apply Exists.intro
        refine ⟨fun _ _ _ h => h, .inl ⟨by kernel_rfl, fun w9 h9 => ?_⟩, fun HP2 => ?_⟩
        · clear h9; go_simp; first | done | rfl
        clear HP1
        refine R_pure 2 rfl (by kernel_rfl) HP2 ?_
        apply Exists.intro
        refine ⟨fun _ _ _ h => h, .inl ⟨by kernel_rfl, fun w9 h9 => ?_⟩, fun HP3 => ?_⟩
        · clear h9; go_simp; first | done | rfl
        clear HP2
        refine R_take 3 rfl (by kernel_rfl) HP3 ?_
        apply Exists.intro
        refine ⟨fun _ _ _ h => h, .inl ⟨by kernel_rfl, fun w9 h9 => ?_⟩, fun HP4 => ?_⟩
        · obtain s1 := h9; go_simp; first | done | rfl
        clear HP3
        refine R_pure 4 rfl (by kernel_rfl) HP4 ?_
        apply Exists.intro
        refine ⟨fun _ _ _ h => h, .inl ⟨by kernel_rfl, fun w9 h9 => ?_⟩, fun HP5 => ?_⟩
        · clear h9; go_simp; first | done | rfl
        clear HP4
        refine R_pure 5 rfl (by kernel_rfl) HP5 ?_
        apply Exists.intro
        refine ⟨fun _ _ _ h => h, .inl ⟨by kernel_rfl, fun w9 h9 => ?_⟩, fun HP6 => ?_⟩
        · clear h9; go_simp; first | done | rfl
        clear HP5
        refine R_pure 6 rfl (by kernel_rfl) HP6 ?_
        apply Exists.intro
        refine ⟨fun _ _ _ h => h, .inl ⟨by kernel_rfl, fun w9 h9 => ?_⟩, fun HP7 => ?_⟩
        · clear h9; go_simp; first | done | rfl
        clear HP6
        refine R_pure 7 rfl (by kernel_rfl) HP7 ?_
        apply Exists.intro
        refine ⟨fun _ _ _ h => h, .inl ⟨by kernel_rfl, fun w9 h9 => ?_⟩, fun HP8 => ?_⟩
        · clear h9; go_simp; first | done | rfl
        clear HP7
        refine R_pure 8 rfl (by kernel_rfl) HP8 ?_
        apply Exists.intro
        refine ⟨fun _ _ _ h => h, .inl ⟨by kernel_rfl, fun w9 h9 => ?_⟩, fun HP9 => ?_⟩
        · clear h9; go_simp; first | done | rfl
        clear HP8
        refine R_pure 9 rfl (by kernel_rfl) HP9 ?_
        apply Exists.intro
        refine ⟨fun _ _ _ h => h, .inl ⟨by kernel_rfl, fun w9 h9 => ?_⟩, fun HP10 => ?_⟩
        · clear h9; go_simp; first | done | rfl
        clear HP9
        refine R_all [10] (by kernel_rfl) ?_
        refine AllR.cons (i := 10) rfl (fun K9 HK9 => ?_) ?_
        · go_simp
          refine (put_any _ p bm lm rm last _ _ _ ⟨a, b, r⟩ H.out.g.drew (by rw [bonds_len]; exact H.out.ok.len) H.out.ok.last0 (by have := HL.out; omega)).mono ?_
          rintro e w5 ⟨rfl, g5, c5⟩
          obtain ⟨w6, hr6, m6, c6⟩ := g5.mr.put Tryz.underlying85 (by have h1 := refs_len ns; have h2 := H.out.ok.len; simp [maxLen]; omega) r (.int .i64 (last + 1)) OKR.out
          have hr6' : (Instr.mapUpdate 85 (.map (some rm)) (.int .i64 r) (.int .i64 (last + 1))).run Tryz.prog w5 = .ok () w6 := hr6
          have G5 := Kp.mk g5
          have G6 := Kp.mk (g5.setR m6 c6)
          have C6 := Kp.mk (((Chg.refl _ w).drew.then c5).trans c6 (fun g _ e => .inr (.inr (.inr e))))
          clear g5 c5 hr6 m6 c6
          go_simp
          refine HK9.out _ _ (.inr G5.out.c3) (fun HP11 => ?_)
          clear HK9 K9
          refine R_all [11] (by kernel_rfl) ?_
          refine AllR.cons (i := 11) rfl (fun K9 HK9 => ?_) ?_
          · go_simp
            refine HK9.out _ _ (.inl (by kernel_rfl)) (fun HP12 => ?_)
            clear HK9 K9
            refine R_done (by kernel_rfl) ?_
            go_wp2
            go_ret
            have e1 := put_bonds H.out.ok ⟨a, b, r⟩
            obtain ⟨e2, e3⟩ := put_refs (ns := ns) (n := last + 1) (a := a) (b := b) R0.out HLO.out
            have g7 := G6.out
            rw [e1, e2, ← e3] at g7
            exact ⟨by rw [hE0.out]; rfl, C6.out, .inr ⟨hE0.out, ⟨g7, H.out.ok.watch hE0.out⟩⟩⟩
          exact AllR.nil
        exact AllR.nil
end Go.Proofs.YtameidoaenoppaaGreatDoor
