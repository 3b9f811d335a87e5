/- What Link of package links does; bounds stand in each statement. -/
import Derived.Test.YtameidoaenoppaaGreatDoorLQ
namespace Go.Proofs.YtameidoaenoppaaGreatDoor
open Go.RowKit

theorem bonds_len (ns : List NB) : (bondsE ns).length = ns.length := by simp [bondsE]
theorem links_len (ns : List NB) : (linksE ns).length ≤ ns.length := by unfold linksE; rw [List.length_map]; exact List.length_filter_le _ _
theorem refs_len (ns : List NB) : (refsE ns).length ≤ ns.length := by unfold refsE; rw [List.length_map]; exact List.length_filter_le _ _
theorem two_0 {a b : Int} (h : twoE a b = 0) : IsPid a ∧ IsPid b ∧ a ≠ b := by
  unfold twoE at h
  split at h
  · assumption
  · cases h
theorem twoE_01 (a b : Int) : twoE a b = 0 ∨ twoE a b = 1 := by unfold twoE; split <;> simp
def linkE (ns : List NB) (a b : Int) : Int := if twoE a b ≠ 0 then 1 else if (look (linksE ns) (min a b, max a b)).isSome = true then 6 else if 1024 ≤ ns.length then 8 else 0
def linkN (ns : List NB) (last a b : Int) : List NB := ns ++ [(last + 1, ⟨min a b, max a b, 0⟩)]
theorem GOk.link {ns : List NB} {last a b : Int} (h : GOk ns last) (e : linkE ns a b = 0) : GOk (linkN ns last a b) (last + 1) := by
  unfold linkE at e
  split at e
  · cases e
  · rename_i h0
    split at e
    · cases e
    · rename_i h1
      split at e
      · cases e
      · rename_i h2
        have hp : IsPid a ∧ IsPid b ∧ a ≠ b := two_0 (by rcases twoE_01 a b with e1 | e1; exact e1; exact absurd (by rw [e1]; decide) h0)
        obtain ⟨⟨p1, p2⟩, ⟨p3, p4⟩, p5⟩ := hp
        have hno : ∀ p ∈ ns, p.2.r = 0 → (p.2.a, p.2.b) ≠ (min a b, max a b) := by
          intro p hp hr e
          apply h1
          have : look (linksE ns) (min a b, max a b) = some (.int .i64 p.1) := (look_links h).2 ⟨p.1, by cases e' : p with | mk n x => (rw [e'] at hp hr e; cases x; simp at hr e; obtain ⟨e1, e2⟩ := e; subst hr e1 e2; exact hp), rfl⟩
          rw [this]; rfl
        have hnn : ∀ q ∈ [((last + 1, ⟨min a b, max a b, 0⟩) : NB)], q = (last + 1, ⟨min a b, max a b, 0⟩) := fun q hq => List.mem_singleton.1 hq
        refine ⟨?_, ?_, by have := h.last0; omega, ?_, ?_, ?_, by unfold linkN; simp; omega⟩
        · refine List.pairwise_append.2 ⟨h.rise, List.pairwise_singleton _ _, fun p hp q hq => ?_⟩
          rw [hnn q hq]; have := (h.top p hp).2; simp only; omega
        · intro p hp
          rcases List.mem_append.1 hp with hp | hp
          · have := h.top p hp; omega
          · rw [hnn p hp]; have := h.last0; simp only; omega
        · intro p hp
          rcases List.mem_append.1 hp with hp | hp
          · exact h.good p hp
          · rw [hnn p hp]
            have k1 : min a b < max a b := by omega
            have k2 : IsPid (min a b) := ⟨by omega, by omega⟩
            have k3 : IsPid (max a b) := ⟨by omega, by omega⟩
            exact ⟨k2, k3, .inl ⟨rfl, k1⟩⟩
        · refine List.pairwise_append.2 ⟨h.pairs, List.pairwise_singleton _ _, fun p hp q hq hr _ => ?_⟩
          rw [hnn q hq]; exact hno p hp hr
        · refine List.pairwise_append.2 ⟨h.refs, List.pairwise_singleton _ _, fun p hp q hq hr => ?_⟩
          rw [hnn q hq]; exact hr
def LinkPost (w : World) (p bm lm rm : Nat) (ns : List NB) (last a b : Int) (e : Ending) (w' : World) : Prop :=
  e = .returned (.int .i64 (linkE ns a b)) ∧ Chg (FG p bm lm rm) w w' ∧ ((linkE ns a b ≠ 0 ∧ IsG w' p bm lm rm ns last) ∨ (linkE ns a b = 0 ∧ IsG w' p bm lm rm (linkN ns last a b) (last + 1)))
set_option maxRecDepth 100000 in
set_option maxHeartbeats 4000000 in
theorem link_any (w : World) (p bm lm rm : Nat) (ns : List NB) (last a b : Int) (h : IsG w p bm lm rm ns last) (hl : last ≤ 900000000000000000) :
    Calls Tryz.prog 20 #[.pointer (some ⟨p, 0, none⟩), .int .i64 a, .int .i64 b] w (LinkPost w p bm lm rm ns last a b) := by
  have H := Kp.mk h
  clear h
  rcases twoE_01 a b with ht | ht
  · have hp : IsPid a ∧ IsPid b ∧ a ≠ b := two_0 ht
    obtain ⟨⟨p1, p2⟩, ⟨p3, p4⟩, p5⟩ := hp
    obtain ⟨x, hx⟩ : ∃ x, x = min a b := ⟨_, rfl⟩
    obtain ⟨y, hy⟩ : ∃ y, y = max a b := ⟨_, rfl⟩
    have okp : K77.ok (x, y) := ⟨ok2 _ (by omega) (by omega), ok2 _ (by omega) (by omega)⟩
    have hE : Kp (linkE ns a b = if (look (linksE ns) (x, y)).isSome = true then 6 else if 1024 ≤ ns.length then 8 else 0) := ⟨by unfold linkE; rw [if_neg (by rw [ht]; decide), hx, hy]⟩
    have hN : Kp (linkN ns last a b = ns ++ [(last + 1, ⟨x, y, 0⟩)]) := ⟨by unfold linkN; rw [hx, hy]⟩
    have OKP := Kp.mk okp
    have HL := Kp.mk hl
    clear p1 p2 p3 p4 p5 okp hl
    go_enter Tryz.func20, Tryz.ntmps20
    go_wp2_with fail
    refine (two_any _ p a b).mono ?_
    rintro e w' ⟨rfl, rfl⟩
    rw [ht]
    go_wp2_with fail
    refine (pairOf_any _ a b).mono ?_
    rintro e w1 ⟨rfl, hb1⟩
    rw [← hx, ← hy]
    obtain ⟨W2, hW2⟩ : ∃ W2, W2 = w1.alloc (.cells #[.int .i64 x, .int .i64 y] 92) := ⟨_, rfl⟩
    have hz1 := hb1.size
    have g2 : G3 W2 p bm lm rm last (bondsE ns) (linksE ns) (refsE ns) := by rw [hW2]; exact (H.out.g.below hb1).al _
    have hx2 : W2.heap[w1.heap.size]? = some (.cells #[.int .i64 x, .int .i64 y] 92 (0, 0)) := by rw [hW2]; exact blk_new w1 _
    have hc2 : Chg (FG p bm lm rm) w W2 := by rw [hW2]; exact (Chg.of_below hb1 _).alloc _
    have hlk : ∀ V, G3 V p bm lm rm last (bondsE ns) (linksE ns) (refsE ns) → (Instr.lookup 84 (.map (some lm)) (.agg #[.int .i64 x, .int .i64 y]) false).run Tryz.prog V = .ok ((look (linksE ns) (x, y)).getD (.int .i64 0)) V := fun V hV => hV.ml.get Tryz.underlying84 (Tryz.zeroValue2 V) (x, y) OKP.out
    have G2 := Kp.mk g2
    have X2 := Kp.mk hx2
    have C2 := Kp.mk hc2
    have LK := Kp.mk (hlk _ g2.drew)
    have LN := Kp.mk (g2.drew.mb.len Tryz.underlying83 3)
    have HZ : Kp (∀ g, FG p bm lm rm g → g < w1.heap.size) := ⟨fun g hg => by have := H.out.g.lt g hg; omega⟩
    have HW2 := Kp.mk hW2
    clear hb1 hx hy ht g2 hx2 hc2 hlk hW2 hz1
    go_upto_region 5 with fail
    rw [← HW2.out]
    cases hlo : look (linksE ns) (x, y) with
    | some v =>
      obtain ⟨n, hn, rfl⟩ := (look_links H.out.ok).1 hlo
      have hn1 := (H.out.ok.top _ hn).1
      have hE6 : Kp (linkE ns a b = 6) := ⟨by rw [hE.out, hlo]; rfl⟩
      have hlk := LK.out
      rw [hlo] at hlk
      have hlk' : (Instr.lookup 84 (.map (some lm)) (.agg #[.int .i64 x, .int .i64 y]) false).run Tryz.prog W2.drew = .ok (.int .i64 n) W2.drew := hlk
      have hnz : (n != 0) = true := by simp only at hn1; simp; omega
      have HLO := Kp.mk hlo
      clear hlo hn hn1 hlk
      refine R_begin 999 (fun w9 => w9.cell? ⟨p, 2, none⟩ = some (.map (some lm)) ∧ w9.cell? ⟨w1.heap.size, 0, none⟩ = some (.int .i64 x) ∧ w9.cell? ⟨w1.heap.size, 1, none⟩ = some (.int .i64 y)) (by kernel_rfl) ⟨G2.out.drew.c2, blk_c X2.out 0, blk_c X2.out 1⟩ (fun HP0 => ?_)
      refine R_pure 0 rfl (by kernel_rfl) HP0 ?_
      apply Exists.intro
      refine ⟨fun _ _ _ h => h, .inl ⟨by kernel_rfl, fun w9 h9 => ?_⟩, fun HP1 => ?_⟩
      · clear h9; go_simp; first | done | rfl
      clear HP0
      refine R_pure 1 rfl (by kernel_rfl) HP1 ?_
      apply Exists.intro
      refine ⟨fun _ _ _ h => h, .inl ⟨by kernel_rfl, fun w9 h9 => ?_⟩, fun HP2 => ?_⟩
      · clear h9; go_simp; first | done | rfl
      clear HP1
      refine R_pure 2 rfl (by kernel_rfl) HP2 ?_
      apply Exists.intro
      refine ⟨fun _ _ _ h => h, .inl ⟨by kernel_rfl, fun w9 h9 => ?_⟩, fun HP3 => ?_⟩
      · clear h9; go_simp; first | done | rfl
      clear HP2
      refine R_take 3 rfl (by kernel_rfl) HP3 ?_
      apply Exists.intro
      refine ⟨fun _ _ _ h => h, .inl ⟨by kernel_rfl, fun w9 h9 => ?_⟩, fun HP4 => ?_⟩
      · obtain ⟨s1, s2, s3⟩ := h9; go_simp; first | done | rfl
      clear HP3
      refine R_take 4 rfl (by kernel_rfl) HP4 ?_
      apply Exists.intro
      refine ⟨fun _ _ _ h => h, .inl ⟨by kernel_rfl, fun w9 h9 => ?_⟩, fun HP5 => ?_⟩
      · obtain ⟨s1, s2, s3⟩ := h9; go_simp; first | done | rfl
      clear HP4
      refine R_all [5] (by kernel_rfl) ?_
      refine AllR.cons (i := 5) rfl (fun K9 HK9 => ?_) ?_
      · go_simp
        refine HK9.out _ _ (.inr ⟨G2.out.drew.c2, blk_c X2.out 0, blk_c X2.out 1⟩) (fun HP6 => ?_)
        clear HK9 K9
        refine R_pure 6 rfl (by kernel_rfl) HP6 ?_
        apply Exists.intro
        refine ⟨fun _ _ _ h => h, .inl ⟨by kernel_rfl, fun w9 h9 => ?_⟩, fun HP7 => ?_⟩
        · clear h9; go_simp; first | done | rfl
        clear HP6
        refine R_pure 7 rfl (by kernel_rfl) HP7 ?_
        apply Exists.intro
        refine ⟨fun _ _ _ h => h, .inl ⟨by kernel_rfl, fun w9 h9 => ?_⟩, fun HP8 => ?_⟩
        · clear h9; go_simp; first | done | rfl
        clear HP7
        refine R_done (by kernel_rfl) ?_
        go_wp2
        go_ret
        exact ⟨by rw [hE6.out]; rfl, C2.out.drew, .inl ⟨by rw [hE6.out]; decide, ⟨G2.out.drew, H.out.ok⟩⟩⟩
      exact AllR.nil
    | none =>
      have hlk := LK.out
      rw [hlo] at hlk
      have hlk' : (Instr.lookup 84 (.map (some lm)) (.agg #[.int .i64 x, .int .i64 y]) false).run Tryz.prog W2.drew = .ok (.int .i64 0) W2.drew := hlk
      have HLO := Kp.mk hlo
      clear hlo hlk
      refine R_begin 999 (fun w9 => w9.cell? ⟨p, 2, none⟩ = some (.map (some lm)) ∧ w9.cell? ⟨w1.heap.size, 0, none⟩ = some (.int .i64 x) ∧ w9.cell? ⟨w1.heap.size, 1, none⟩ = some (.int .i64 y)) (by kernel_rfl) ⟨G2.out.drew.c2, blk_c X2.out 0, blk_c X2.out 1⟩ (fun HP0 => ?_)
      refine R_pure 0 rfl (by kernel_rfl) HP0 ?_
      apply Exists.intro
      refine ⟨fun _ _ _ h => h, .inl ⟨by kernel_rfl, fun w9 h9 => ?_⟩, fun HP1 => ?_⟩
      · clear h9; go_simp; first | done | rfl
      clear HP0
      refine R_pure 1 rfl (by kernel_rfl) HP1 ?_
      apply Exists.intro
      refine ⟨fun _ _ _ h => h, .inl ⟨by kernel_rfl, fun w9 h9 => ?_⟩, fun HP2 => ?_⟩
      · clear h9; go_simp; first | done | rfl
      clear HP1
      refine R_pure 2 rfl (by kernel_rfl) HP2 ?_
      apply Exists.intro
      refine ⟨fun _ _ _ h => h, .inl ⟨by kernel_rfl, fun w9 h9 => ?_⟩, fun HP3 => ?_⟩
      · clear h9; go_simp; first | done | rfl
      clear HP2
      refine R_take 3 rfl (by kernel_rfl) HP3 ?_
      apply Exists.intro
      refine ⟨fun _ _ _ h => h, .inl ⟨by kernel_rfl, fun w9 h9 => ?_⟩, fun HP4 => ?_⟩
      · obtain ⟨s1, s2, s3⟩ := h9; go_simp; first | done | rfl
      clear HP3
      refine R_take 4 rfl (by kernel_rfl) HP4 ?_
      apply Exists.intro
      refine ⟨fun _ _ _ h => h, .inl ⟨by kernel_rfl, fun w9 h9 => ?_⟩, fun HP5 => ?_⟩
      · obtain ⟨s1, s2, s3⟩ := h9; go_simp; first | done | rfl
      clear HP4
      refine R_all [5] (by kernel_rfl) ?_
      refine AllR.cons (i := 5) rfl (fun K9 HK9 => ?_) ?_
      · go_simp
        refine HK9.out _ _ (.inr ⟨G2.out.drew.c2, blk_c X2.out 0, blk_c X2.out 1⟩) (fun HP6 => ?_)
        clear HK9 K9
        refine R_pure 6 rfl (by kernel_rfl) HP6 ?_
        apply Exists.intro
        refine ⟨fun _ _ _ h => h, .inl ⟨by kernel_rfl, fun w9 h9 => ?_⟩, fun HP7 => ?_⟩
        · clear h9; go_simp; first | done | rfl
        clear HP6
        refine R_pure 7 rfl (by kernel_rfl) HP7 ?_
        apply Exists.intro
        refine ⟨fun _ _ _ h => h, .inl ⟨by kernel_rfl, fun w9 h9 => ?_⟩, fun HP8 => ?_⟩
        · clear h9; go_simp; first | done | rfl
        clear HP7
        refine R_done (by kernel_rfl) ?_
        have LN' := LN.out
        rw [bonds_len] at LN'
        have q0 := G2.out.drew.c0
        have q1 := lt_of_block G2.out.drew.blk
        by_cases hfull : 1024 ≤ ns.length
        · have hfd : decide (1024 ≤ ns.length) = true := by simpa using hfull
          have hE8 : Kp (linkE ns a b = 8) := ⟨by rw [hE.out, HLO.out]; simp [hfull]⟩
          go_wp2
          go_ret
          exact ⟨by rw [hE8.out]; rfl, C2.out.drew, .inl ⟨by rw [hE8.out]; decide, ⟨G2.out.drew, H.out.ok⟩⟩⟩
        · have hfd : decide (1024 ≤ ns.length) = false := by simpa using hfull
          have hE0 : Kp (linkE ns a b = 0) := ⟨by rw [hE.out, HLO.out]; simp [hfull]⟩
          go_upto_region 9 with fail
          refine R_begin 12 (fun w9 => w9.cell? ⟨p, 2, none⟩ = some (.map (some lm)) ∧ w9.cell? ⟨w1.heap.size, 0, none⟩ = some (.int .i64 x) ∧ w9.cell? ⟨w1.heap.size, 1, none⟩ = some (.int .i64 y)) (by kernel_rfl) ⟨G2.out.drew.drew.c2, blk_c X2.out 0, blk_c X2.out 1⟩ (fun HP0 => ?_)
          refine R_pure 0 rfl (by kernel_rfl) HP0 ?_
          apply Exists.intro
          refine ⟨fun _ _ _ h => h, .inl ⟨by kernel_rfl, fun w9 h9 => ?_⟩, fun HP1 => ?_⟩
          · clear h9; go_simp; first | done | rfl
          clear HP0
          refine R_pure 1 rfl (by kernel_rfl) HP1 ?_
          apply Exists.intro
          refine ⟨fun _ _ _ h => h, .inl ⟨by kernel_rfl, fun w9 h9 => ?_⟩, fun HP2 => ?_⟩
          · clear h9; go_simp; first | done | rfl
          clear HP1
          refine R_pure 2 rfl (by kernel_rfl) HP2 ?_
          apply Exists.intro
          refine ⟨fun _ _ _ h => h, .inl ⟨by kernel_rfl, fun w9 h9 => ?_⟩, fun HP3 => ?_⟩
          · clear h9; go_simp; first | done | rfl
          clear HP2
          refine R_take 3 rfl (by kernel_rfl) HP3 ?_
          apply Exists.intro
          refine ⟨fun _ _ _ h => h, .inl ⟨by kernel_rfl, fun w9 h9 => ?_⟩, fun HP4 => ?_⟩
          · obtain ⟨s1, s2, s3⟩ := h9; go_simp; first | done | rfl
          clear HP3
          refine R_take 4 rfl (by kernel_rfl) HP4 ?_
          apply Exists.intro
          refine ⟨fun _ _ _ h => h, .inl ⟨by kernel_rfl, fun w9 h9 => ?_⟩, fun HP5 => ?_⟩
          · obtain ⟨s1, s2, s3⟩ := h9; go_simp; first | done | rfl
          clear HP4
          refine R_pure 5 rfl (by kernel_rfl) HP5 ?_
          apply Exists.intro
          refine ⟨fun _ _ _ h => h, .inl ⟨by kernel_rfl, fun w9 h9 => ?_⟩, fun HP6 => ?_⟩
          · clear h9; go_simp; first | done | rfl
          clear HP5
          refine R_pure 6 rfl (by kernel_rfl) HP6 ?_
          apply Exists.intro
          refine ⟨fun _ _ _ h => h, .inl ⟨by kernel_rfl, fun w9 h9 => ?_⟩, fun HP7 => ?_⟩
          · clear h9; go_simp; first | done | rfl
          clear HP6
          refine R_take 7 rfl (by kernel_rfl) HP7 ?_
          apply Exists.intro
          refine ⟨fun _ _ _ h => h, .inl ⟨by kernel_rfl, fun w9 h9 => ?_⟩, fun HP8 => ?_⟩
          · obtain ⟨s1, s2, s3⟩ := h9; go_simp; first | done | rfl
          clear HP7
          refine R_pure 8 rfl (by kernel_rfl) HP8 ?_
          apply Exists.intro
          refine ⟨fun _ _ _ h => h, .inl ⟨by kernel_rfl, fun w9 h9 => ?_⟩, fun HP9 => ?_⟩
          · clear h9; go_simp; first | done | rfl
          clear HP8
          refine R_take 9 rfl (by kernel_rfl) HP9 ?_
          apply Exists.intro
          refine ⟨fun _ _ _ h => h, .inl ⟨by kernel_rfl, fun w9 h9 => ?_⟩, fun HP10 => ?_⟩
          · obtain ⟨s1, s2, s3⟩ := h9; go_simp; first | done | rfl
          clear HP9
          refine R_pure 10 rfl (by kernel_rfl) HP10 ?_
          apply Exists.intro
          refine ⟨fun _ _ _ h => h, .inl ⟨by kernel_rfl, fun w9 h9 => ?_⟩, fun HP11 => ?_⟩
          · clear h9; go_simp; first | done | rfl
          clear HP10
          refine R_all [11] (by kernel_rfl) ?_
          refine AllR.cons (i := 11) rfl (fun K9 HK9 => ?_) ?_
          · go_simp
            refine (put_any _ p bm lm rm last _ _ _ ⟨x, y, 0⟩ G2.out.drew.drew (by rw [bonds_len]; exact H.out.ok.len) H.out.ok.last0 (by have := HL.out; omega)).mono ?_
            rintro e w5 ⟨rfl, g5, c5⟩
            have X5 := Kp.mk (c5.at (b := w1.heap.size) X2.out (fun hF => by have := HZ.out _ hF; omega))
            obtain ⟨w6, hr6, m6, c6⟩ := g5.ml.put Tryz.underlying84 (by have h1 := links_len ns; have h2 := H.out.ok.len; simp [maxLen]; omega) (x, y) (.int .i64 (last + 1)) OKP.out
            have hr6' : (Instr.mapUpdate 84 (.map (some lm)) (.agg #[.int .i64 x, .int .i64 y]) (.int .i64 (last + 1))).run Tryz.prog w5 = .ok () w6 := hr6
            have G5 := Kp.mk g5
            have G6 := Kp.mk (g5.setL m6 c6)
            have C6 := Kp.mk ((C2.out.drew.drew.then c5).trans c6 (fun g _ e => .inr (.inr (.inl e))))
            clear g5 c5 hr6 m6 c6
            go_simp
            refine HK9.out _ _ (.inr ⟨G5.out.c2, blk_c X5.out 0, blk_c X5.out 1⟩) (fun HP12 => ?_)
            clear HK9 K9
            refine R_all [12] (by kernel_rfl) ?_
            refine AllR.cons (i := 12) rfl (fun K9 HK9 => ?_) ?_
            · go_simp
              refine HK9.out _ _ (.inl (by kernel_rfl)) (fun HP13 => ?_)
              clear HK9 K9
              refine R_done (by kernel_rfl) ?_
              go_wp2
              go_ret
              have e1 := put_bonds H.out.ok ⟨x, y, 0⟩
              obtain ⟨e2, e3⟩ := put_links (ns := ns) (n := last + 1) HLO.out
              have g7 := G6.out
              rw [e1, e2, ← e3, ← hN.out] at g7
              exact ⟨by rw [hE0.out]; rfl, C6.out, .inr ⟨hE0.out, ⟨g7, H.out.ok.link hE0.out⟩⟩⟩
            exact AllR.nil
          exact AllR.nil
      exact AllR.nil
  · have hE : Kp (linkE ns a b = 1) := ⟨by unfold linkE; rw [if_pos (by rw [ht]; decide)]⟩
    go_enter Tryz.func20, Tryz.ntmps20
    go_wp2_with (go_at_call 48; refine (two_any _ p a b).mono ?_; rintro e w' ⟨rfl, rfl⟩; rw [ht])
    go_ret
    exact ⟨by rw [hE.out]; rfl, Chg.refl _ _, .inl ⟨by rw [hE.out]; decide, H.out⟩⟩
end Go.Proofs.YtameidoaenoppaaGreatDoor
