/- What Unlink, Linked, Len of package links do; bounds stand in each statement. -/
import Derived.Test.YtlbbheopoflmjaaR
namespace Go.Proofs.Ytlbbheopoflmjaa
open Go.RowKit

set_option maxHeartbeats 400000 in
theorem len_any (w : World) (p bm lm rm : Nat) (ns : List NB) (last : Int) (h : IsG w p bm lm rm ns last) : Calls Try.prog 22 #[.pointer (some ⟨p, 0, none⟩)] w fun e w' => e = .returned (.int .i64 ns.length) ∧ w = w' := by
  have q0 := h.g.c0
  have q1 := lt_of_block h.g.blk
  have q2 := h.g.mb.len Try.underlying61 3
  rw [bonds_len] at q2
  clear h
  go_enter Try.func22, Try.ntmps22
  go_wp2
  go_ret
  exact ⟨rfl, rfl⟩
def linked (ns : List NB) (a b : Int) : Bool := (look (linksE ns) (min a b, max a b)).isSome
/-- Without the link of two. -/
def unlN (ns : List NB) (a b : Int) : List NB := ns.filter (fun p => decide (p.2 ≠ ⟨min a b, max a b, 0⟩))
theorem unl_out {ns : List NB} {last a b n : Int} (h : GOk ns last) (hn : (n, (⟨min a b, max a b, 0⟩ : Bd)) ∈ ns) : outN ns n = unlN ns a b := by
  unfold outN unlN
  refine List.filter_congr fun p hp => ?_
  have : p.1 = n ↔ p.2 = ⟨min a b, max a b, 0⟩ := by
    constructor
    · intro e; rw [h.num hp hn e]
    · intro e; have := h.pair hp hn (by rw [e]) rfl (by rw [e]); rw [this]
  simp only [ne_eq, this]
theorem GOk.unl {ns : List NB} {last : Int} (h : GOk ns last) (a b : Int) : GOk (unlN ns a b) last :=
  ⟨h.rise.filter _, fun p hp => h.top p (List.mem_filter.1 hp).1, h.last0, fun p hp => h.good p (List.mem_filter.1 hp).1, h.pairs.filter _, h.refs.filter _, Nat.le_trans (List.length_filter_le _ _) h.len⟩
def unlE (ns : List NB) (a b : Int) : Int := if twoE a b ≠ 0 then 1 else if linked ns a b = true then 0 else 5
def UnlPost (w : World) (p bm lm rm : Nat) (ns : List NB) (last a b : Int) (e : Ending) (w' : World) : Prop :=
  e = .returned (.int .i64 (unlE ns a b)) ∧ Chg (FG p bm lm rm) w w' ∧ ((unlE ns a b ≠ 0 ∧ IsG w' p bm lm rm ns last) ∨ (unlE ns a b = 0 ∧ IsG w' p bm lm rm (unlN ns a b) last))
set_option maxRecDepth 100000 in
set_option maxHeartbeats 4000000 in
theorem unlink_any (w : World) (p bm lm rm : Nat) (ns : List NB) (last a b : Int) (h : IsG w p bm lm rm ns last) (hl : last ≤ 900000000000000000) :
    Calls Try.prog 31 #[.pointer (some ⟨p, 0, none⟩), .int .i64 a, .int .i64 b] w (UnlPost w p bm lm rm ns last a b) := by
  have H := Kp.mk h
  rcases twoE_01 a b with ht | ht
  · obtain ⟨⟨p1, p2⟩, ⟨p3, p4⟩, p5⟩ := two_0 ht
    obtain ⟨x, hx⟩ : ∃ x, x = min a b := ⟨_, rfl⟩
    obtain ⟨y, hy⟩ : ∃ y, y = max a b := ⟨_, rfl⟩
    have okp : K77.ok (x, y) := ⟨ok2 _ (by omega) (by omega), ok2 _ (by omega) (by omega)⟩
    have hE : Kp (unlE ns a b = if (look (linksE ns) (x, y)).isSome = true then 0 else 5) := ⟨by unfold unlE linked; rw [if_neg (by rw [ht]; decide), hx, hy]⟩
    have hlk : ∀ V, G3 V p bm lm rm last (bondsE ns) (linksE ns) (refsE ns) → (Instr.lookup 62 (.map (some lm)) (.agg #[.int .i64 x, .int .i64 y]) false).run Try.prog V = .ok ((look (linksE ns) (x, y)).getD (.int .i64 0)) V := fun V hV => hV.ml.get Try.underlying62 (Try.zeroValue2 V) (x, y) okp
    have LK := Kp.mk hlk
    have HL := Kp.mk hl
    have HX := Kp.mk (And.intro hx hy)
    have G0 := Kp.mk h.g.drew
    clear p1 p2 p3 p4 p5 okp hl hlk h hx hy
    go_enter Try.func31, Try.ntmps31
    go_wp2_with fail
    refine (two_any _ p a b).mono ?_
    rintro e w' ⟨rfl, rfl⟩
    rw [ht]
    go_upto_region 4 with fail
    cases hlo : look (linksE ns) (x, y) with
    | some v =>
      obtain ⟨n, hn, rfl⟩ := (look_links H.out.ok).1 hlo
      have hn1 : 1 ≤ n := (H.out.ok.top _ hn).1
      have hE0 : Kp (unlE ns a b = 0) := ⟨by rw [hE.out, hlo]; rfl⟩
      have HN : Kp ((n, (⟨x, y, 0⟩ : Bd)) ∈ ns) := ⟨hn⟩
      have hnz : (n == 0) = false := by simp; omega
      have HLO := Kp.mk hlo
      clear hlo hn hn1
      refine R_begin 999 (fun w9 => w9.cell? ⟨p, 2, none⟩ = some (.map (some lm))) (by kernel_rfl) G0.out.c2 (fun HP0 => ?_)
      refine R_pure 0 rfl (by kernel_rfl) HP0 ?_
      apply Exists.intro
      refine ⟨fun _ _ _ h => h, .inl ⟨by kernel_rfl, fun w9 h9 => ?_⟩, fun HP1 => ?_⟩
      · clear h9; go_simp; first | done | rfl
      clear HP0
      refine R_pure 1 rfl (by kernel_rfl) HP1 ?_
      apply Exists.intro
      refine ⟨fun _ _ _ h => h, .inl ⟨by kernel_rfl, fun w9 h9 => ?_⟩, fun HP2 => ?_⟩
      · clear h9; go_simp; first | done | rfl
      clear HP1
      refine R_pure 2 rfl (by kernel_rfl) HP2 ?_
      apply Exists.intro
      refine ⟨fun _ _ _ h => h, .inl ⟨by kernel_rfl, fun w9 h9 => ?_⟩, fun HP3 => ?_⟩
      · clear h9; go_simp; first | done | rfl
      clear HP2
      refine R_take 3 rfl (by kernel_rfl) HP3 ?_
      apply Exists.intro
      refine ⟨fun _ _ _ h => h, .inl ⟨by kernel_rfl, fun w9 h9 => ?_⟩, fun HP4 => ?_⟩
      · obtain s1 := h9; go_simp; first | done | rfl
      clear HP3
      refine R_pure 4 rfl (by kernel_rfl) HP4 ?_
      apply Exists.intro
      refine ⟨fun _ _ _ h => h, .inl ⟨by kernel_rfl, fun w9 h9 => ?_⟩, fun HP5 => ?_⟩
      · clear h9; go_simp; first | done | rfl
      clear HP4
      refine R_pure 5 rfl (by kernel_rfl) HP5 ?_
      apply Exists.intro
      refine ⟨fun _ _ _ h => h, .inl ⟨by kernel_rfl, fun w9 h9 => ?_⟩, fun HP6 => ?_⟩
      · clear h9; go_simp; first | done | rfl
      clear HP5
      refine R_all [6] (by kernel_rfl) ?_
      refine AllR.cons (i := 6) rfl (fun K9 HK9 => ?_) ?_
      · go_simp
        refine (pairOf_any _ a b).mono ?_
        rintro e w1 ⟨rfl, hb1⟩
        rw [← HX.out.1, ← HX.out.2]
        have G1 := Kp.mk (G0.out.below hb1)
        have B1 := Kp.mk ((Below.refl _ w).drew.trans hb1)
        have hlk := LK.out _ G1.out
        rw [HLO.out] at hlk
        have hlk' : (Instr.lookup 62 (.map (some lm)) (.agg #[.int .i64 x, .int .i64 y]) false).run Try.prog w1 = .ok (.int .i64 n) w1 := hlk
        clear hb1 hlk
        go_simp
        refine HK9.out _ _ (.inr G1.out.c2) (fun HP7 => ?_)
        clear HK9 K9
        refine R_all [7] (by kernel_rfl) ?_
        refine AllR.cons (i := 7) rfl (fun K9 HK9 => ?_) ?_
        · go_simp
          refine HK9.out _ _ (.inr G1.out.c2) (fun HP8 => ?_)
          clear HK9 K9
          refine R_pure 8 rfl (by kernel_rfl) HP8 ?_
          apply Exists.intro
          refine ⟨fun _ _ _ h => h, .inl ⟨by kernel_rfl, fun w9 h9 => ?_⟩, fun HP9 => ?_⟩
          · clear h9; go_simp; first | done | rfl
          clear HP8
          refine R_done (by kernel_rfl) ?_
          go_wp2_with fail
          refine (out_any w1 p bm lm rm ns last n ⟨x, y, 0⟩ ⟨G1.out, H.out.ok⟩ HN.out (by have := HL.out; omega)).mono ?_
          rintro e w2 ⟨⟨v, rfl⟩, g2, c2⟩
          have G2 := Kp.mk g2
          have C2 := Kp.mk c2
          clear g2 c2
          go_wp2
          go_ret
          have e1 := unl_out (a := a) (b := b) H.out.ok (by rw [← HX.out.1, ← HX.out.2]; exact HN.out)
          exact ⟨by rw [hE0.out]; rfl, (Chg.of_below B1.out _).then C2.out, .inr ⟨hE0.out, by rw [← e1]; exact G2.out⟩⟩
        exact AllR.nil
      exact AllR.nil
    | none =>
      have hE5 : Kp (unlE ns a b = 5) := ⟨by rw [hE.out, hlo]; rfl⟩
      have HLO := Kp.mk hlo
      clear hlo
      refine R_begin 999 (fun w9 => w9.cell? ⟨p, 2, none⟩ = some (.map (some lm))) (by kernel_rfl) G0.out.c2 (fun HP0 => ?_)
      refine R_pure 0 rfl (by kernel_rfl) HP0 ?_
      apply Exists.intro
      refine ⟨fun _ _ _ h => h, .inl ⟨by kernel_rfl, fun w9 h9 => ?_⟩, fun HP1 => ?_⟩
      · clear h9; go_simp; first | done | rfl
      clear HP0
      refine R_pure 1 rfl (by kernel_rfl) HP1 ?_
      apply Exists.intro
      refine ⟨fun _ _ _ h => h, .inl ⟨by kernel_rfl, fun w9 h9 => ?_⟩, fun HP2 => ?_⟩
      · clear h9; go_simp; first | done | rfl
      clear HP1
      refine R_pure 2 rfl (by kernel_rfl) HP2 ?_
      apply Exists.intro
      refine ⟨fun _ _ _ h => h, .inl ⟨by kernel_rfl, fun w9 h9 => ?_⟩, fun HP3 => ?_⟩
      · clear h9; go_simp; first | done | rfl
      clear HP2
      refine R_take 3 rfl (by kernel_rfl) HP3 ?_
      apply Exists.intro
      refine ⟨fun _ _ _ h => h, .inl ⟨by kernel_rfl, fun w9 h9 => ?_⟩, fun HP4 => ?_⟩
      · obtain s1 := h9; go_simp; first | done | rfl
      clear HP3
      refine R_pure 4 rfl (by kernel_rfl) HP4 ?_
      apply Exists.intro
      refine ⟨fun _ _ _ h => h, .inl ⟨by kernel_rfl, fun w9 h9 => ?_⟩, fun HP5 => ?_⟩
      · clear h9; go_simp; first | done | rfl
      clear HP4
      refine R_pure 5 rfl (by kernel_rfl) HP5 ?_
      apply Exists.intro
      refine ⟨fun _ _ _ h => h, .inl ⟨by kernel_rfl, fun w9 h9 => ?_⟩, fun HP6 => ?_⟩
      · clear h9; go_simp; first | done | rfl
      clear HP5
      refine R_all [6] (by kernel_rfl) ?_
      refine AllR.cons (i := 6) rfl (fun K9 HK9 => ?_) ?_
      · go_simp
        refine (pairOf_any _ a b).mono ?_
        rintro e w1 ⟨rfl, hb1⟩
        rw [← HX.out.1, ← HX.out.2]
        have G1 := Kp.mk (G0.out.below hb1)
        have B1 := Kp.mk ((Below.refl _ w).drew.trans hb1)
        have hlk := LK.out _ G1.out
        rw [HLO.out] at hlk
        have hlk' : (Instr.lookup 62 (.map (some lm)) (.agg #[.int .i64 x, .int .i64 y]) false).run Try.prog w1 = .ok (.int .i64 0) w1 := hlk
        clear hb1 hlk
        go_simp
        refine HK9.out _ _ (.inr G1.out.c2) (fun HP7 => ?_)
        clear HK9 K9
        refine R_all [7] (by kernel_rfl) ?_
        refine AllR.cons (i := 7) rfl (fun K9 HK9 => ?_) ?_
        · go_simp
          refine HK9.out _ _ (.inr G1.out.c2) (fun HP8 => ?_)
          clear HK9 K9
          refine R_pure 8 rfl (by kernel_rfl) HP8 ?_
          apply Exists.intro
          refine ⟨fun _ _ _ h => h, .inl ⟨by kernel_rfl, fun w9 h9 => ?_⟩, fun HP9 => ?_⟩
          · clear h9; go_simp; first | done | rfl
          clear HP8
          refine R_done (by kernel_rfl) ?_
          go_wp2
          go_ret
          exact ⟨by rw [hE5.out]; rfl, Chg.of_below B1.out _, .inl ⟨by rw [hE5.out]; decide, ⟨G1.out, H.out.ok⟩⟩⟩
        exact AllR.nil
      exact AllR.nil
  · have hE : Kp (unlE ns a b = 1) := ⟨by unfold unlE; rw [if_pos (by rw [ht]; decide)]⟩
    clear h
    go_enter Try.func31, Try.ntmps31
    go_wp2_with (go_at_call 49; refine (two_any _ p a b).mono ?_; rintro e w' ⟨rfl, rfl⟩; rw [ht])
    go_ret
    exact ⟨by rw [hE.out]; rfl, Chg.refl _ _, .inl ⟨by rw [hE.out]; decide, H.out⟩⟩
set_option maxRecDepth 100000 in
set_option maxHeartbeats 4000000 in
theorem linked_any (w : World) (p bm lm rm : Nat) (ns : List NB) (last a b : Int) (h : IsG w p bm lm rm ns last) (ha : -9223372036854775808 ≤ a ∧ a ≤ 9223372036854775807) (hb : -9223372036854775808 ≤ b ∧ b ≤ 9223372036854775807) :
    Calls Try.prog 26 #[.pointer (some ⟨p, 0, none⟩), .int .i64 a, .int .i64 b] w fun e w' => e = .returned (.bool (linked ns a b)) ∧ Below w.heap.size w w' := by
  have H := Kp.mk h
  obtain ⟨x, hx⟩ : ∃ x, x = min a b := ⟨_, rfl⟩
  obtain ⟨y, hy⟩ : ∃ y, y = max a b := ⟨_, rfl⟩
  have okp : K77.ok (x, y) := ⟨ok2 _ (by omega) (by omega), ok2 _ (by omega) (by omega)⟩
  have hlk : ∀ V, G3 V p bm lm rm last (bondsE ns) (linksE ns) (refsE ns) → (Instr.lookup 62 (.map (some lm)) (.agg #[.int .i64 x, .int .i64 y]) false).run Try.prog V = .ok ((look (linksE ns) (x, y)).getD (.int .i64 0)) V := fun V hV => hV.ml.get Try.underlying62 (Try.zeroValue2 V) (x, y) okp
  have LK := Kp.mk hlk
  have HX := Kp.mk (And.intro hx hy)
  have G0 := Kp.mk h.g.drew
  clear ha hb okp hlk h hx hy
  have hpn : ∀ V, (binOp BinOp.neq 24 (.pointer (some ⟨p, 0, none⟩)) (.pointer none)).run Try.prog V = .ok (.bool true) V := fun _ => by kernel_rfl
  go_enter Try.func26, Try.ntmps26
  go_upto_region 1 with fail
  cases hlo : look (linksE ns) (x, y) with
  | some v =>
    obtain ⟨n, hn, rfl⟩ := (look_links H.out.ok).1 hlo
    have hn1 : 1 ≤ n := (H.out.ok.top _ hn).1
    have hE0 : Kp (linked ns a b = true) := ⟨by unfold linked; rw [← HX.out.1, ← HX.out.2, hlo]; rfl⟩
    have hnz : (n != 0) = true := by simp; omega
    have HLO := Kp.mk hlo
    clear hlo hn hn1
    refine R_begin 999 (fun w9 => w9.cell? ⟨p, 2, none⟩ = some (.map (some lm))) (by kernel_rfl) G0.out.c2 (fun HP0 => ?_)
    refine R_pure 0 rfl (by kernel_rfl) HP0 ?_
    apply Exists.intro
    refine ⟨fun _ _ _ h => h, .inl ⟨by kernel_rfl, fun w9 h9 => ?_⟩, fun HP1 => ?_⟩
    · clear h9; go_simp; first | done | rfl
    clear HP0
    refine R_pure 1 rfl (by kernel_rfl) HP1 ?_
    apply Exists.intro
    refine ⟨fun _ _ _ h => h, .inl ⟨by kernel_rfl, fun w9 h9 => ?_⟩, fun HP2 => ?_⟩
    · clear h9; go_simp; first | done | rfl
    clear HP1
    refine R_pure 2 rfl (by kernel_rfl) HP2 ?_
    apply Exists.intro
    refine ⟨fun _ _ _ h => h, .inl ⟨by kernel_rfl, fun w9 h9 => ?_⟩, fun HP3 => ?_⟩
    · clear h9; go_simp; first | done | rfl
    clear HP2
    refine R_pure 3 rfl (by kernel_rfl) HP3 ?_
    apply Exists.intro
    refine ⟨fun _ _ _ h => h, .inl ⟨by kernel_rfl, fun w9 h9 => ?_⟩, fun HP4 => ?_⟩
    · clear h9; go_simp; first | done | rfl
    clear HP3
    refine R_pure 4 rfl (by kernel_rfl) HP4 ?_
    apply Exists.intro
    refine ⟨fun _ _ _ h => h, .inl ⟨by kernel_rfl, fun w9 h9 => ?_⟩, fun HP5 => ?_⟩
    · clear h9; go_simp; first | done | rfl
    clear HP4
    refine R_pure 5 rfl (by kernel_rfl) HP5 ?_
    apply Exists.intro
    refine ⟨fun _ _ _ h => h, .inl ⟨by kernel_rfl, fun w9 h9 => ?_⟩, fun HP6 => ?_⟩
    · clear h9; go_simp; first | done | rfl
    clear HP5
    refine R_take 6 rfl (by kernel_rfl) HP6 ?_
    apply Exists.intro
    refine ⟨fun _ _ _ h => h, .inl ⟨by kernel_rfl, fun w9 h9 => ?_⟩, fun HP7 => ?_⟩
    · obtain s1 := h9; go_simp; first | done | rfl
    clear HP6
    refine R_pure 7 rfl (by kernel_rfl) HP7 ?_
    apply Exists.intro
    refine ⟨fun _ _ _ h => h, .inl ⟨by kernel_rfl, fun w9 h9 => ?_⟩, fun HP8 => ?_⟩
    · clear h9; go_simp; first | done | rfl
    clear HP7
    refine R_pure 8 rfl (by kernel_rfl) HP8 ?_
    apply Exists.intro
    refine ⟨fun _ _ _ h => h, .inl ⟨by kernel_rfl, fun w9 h9 => ?_⟩, fun HP9 => ?_⟩
    · clear h9; go_simp; first | done | rfl
    clear HP8
    refine R_all [9] (by kernel_rfl) ?_
    refine AllR.cons (i := 9) rfl (fun K9 HK9 => ?_) ?_
    · go_simp
      refine (pairOf_any _ a b).mono ?_
      rintro e w1 ⟨rfl, hb1⟩
      rw [← HX.out.1, ← HX.out.2]
      have G1 := Kp.mk (G0.out.below hb1)
      have B1 := Kp.mk ((Below.refl _ w).drew.trans hb1)
      have hlk := LK.out _ G1.out
      rw [HLO.out] at hlk
      have hlk' : (Instr.lookup 62 (.map (some lm)) (.agg #[.int .i64 x, .int .i64 y]) false).run Try.prog w1 = .ok (.int .i64 n) w1 := hlk
      clear hb1 hlk
      go_simp
      refine HK9.out _ _ (.inr G1.out.c2) (fun HP10 => ?_)
      clear HK9 K9
      refine R_all [10] (by kernel_rfl) ?_
      refine AllR.cons (i := 10) rfl (fun K9 HK9 => ?_) ?_
      · go_simp
        refine HK9.out _ _ (.inr G1.out.c2) (fun HP11 => ?_)
        clear HK9 K9
        refine R_pure 11 rfl (by kernel_rfl) HP11 ?_
        apply Exists.intro
        refine ⟨fun _ _ _ h => h, .inl ⟨by kernel_rfl, fun w9 h9 => ?_⟩, fun HP12 => ?_⟩
        · clear h9; go_simp; first | done | rfl
        clear HP11
        refine R_pure 12 rfl (by kernel_rfl) HP12 ?_
        apply Exists.intro
        refine ⟨fun _ _ _ h => h, .inl ⟨by kernel_rfl, fun w9 h9 => ?_⟩, fun HP13 => ?_⟩
        · clear h9; go_simp; first | done | rfl
        clear HP12
        refine R_pure 13 rfl (by kernel_rfl) HP13 ?_
        apply Exists.intro
        refine ⟨fun _ _ _ h => h, .inl ⟨by kernel_rfl, fun w9 h9 => ?_⟩, fun HP14 => ?_⟩
        · clear h9; go_simp; first | done | rfl
        clear HP13
        refine R_done (by kernel_rfl) ?_
        go_wp2
        go_ret
        exact ⟨by rw [hE0.out]; rfl, B1.out⟩
      exact AllR.nil
    exact AllR.nil
  | none =>
    have hE0 : Kp (linked ns a b = false) := ⟨by unfold linked; rw [← HX.out.1, ← HX.out.2, hlo]; rfl⟩
    have HLO := Kp.mk hlo
    clear hlo
    refine R_begin 999 (fun w9 => w9.cell? ⟨p, 2, none⟩ = some (.map (some lm))) (by kernel_rfl) G0.out.c2 (fun HP0 => ?_)
    refine R_pure 0 rfl (by kernel_rfl) HP0 ?_
    apply Exists.intro
    refine ⟨fun _ _ _ h => h, .inl ⟨by kernel_rfl, fun w9 h9 => ?_⟩, fun HP1 => ?_⟩
    · clear h9; go_simp; first | done | rfl
    clear HP0
    refine R_pure 1 rfl (by kernel_rfl) HP1 ?_
    apply Exists.intro
    refine ⟨fun _ _ _ h => h, .inl ⟨by kernel_rfl, fun w9 h9 => ?_⟩, fun HP2 => ?_⟩
    · clear h9; go_simp; first | done | rfl
    clear HP1
    refine R_pure 2 rfl (by kernel_rfl) HP2 ?_
    apply Exists.intro
    refine ⟨fun _ _ _ h => h, .inl ⟨by kernel_rfl, fun w9 h9 => ?_⟩, fun HP3 => ?_⟩
    · clear h9; go_simp; first | done | rfl
    clear HP2
    refine R_pure 3 rfl (by kernel_rfl) HP3 ?_
    apply Exists.intro
    refine ⟨fun _ _ _ h => h, .inl ⟨by kernel_rfl, fun w9 h9 => ?_⟩, fun HP4 => ?_⟩
    · clear h9; go_simp; first | done | rfl
    clear HP3
    refine R_pure 4 rfl (by kernel_rfl) HP4 ?_
    apply Exists.intro
    refine ⟨fun _ _ _ h => h, .inl ⟨by kernel_rfl, fun w9 h9 => ?_⟩, fun HP5 => ?_⟩
    · clear h9; go_simp; first | done | rfl
    clear HP4
    refine R_pure 5 rfl (by kernel_rfl) HP5 ?_
    apply Exists.intro
    refine ⟨fun _ _ _ h => h, .inl ⟨by kernel_rfl, fun w9 h9 => ?_⟩, fun HP6 => ?_⟩
    · clear h9; go_simp; first | done | rfl
    clear HP5
    refine R_take 6 rfl (by kernel_rfl) HP6 ?_
    apply Exists.intro
    refine ⟨fun _ _ _ h => h, .inl ⟨by kernel_rfl, fun w9 h9 => ?_⟩, fun HP7 => ?_⟩
    · obtain s1 := h9; go_simp; first | done | rfl
    clear HP6
    refine R_pure 7 rfl (by kernel_rfl) HP7 ?_
    apply Exists.intro
    refine ⟨fun _ _ _ h => h, .inl ⟨by kernel_rfl, fun w9 h9 => ?_⟩, fun HP8 => ?_⟩
    · clear h9; go_simp; first | done | rfl
    clear HP7
    refine R_pure 8 rfl (by kernel_rfl) HP8 ?_
    apply Exists.intro
    refine ⟨fun _ _ _ h => h, .inl ⟨by kernel_rfl, fun w9 h9 => ?_⟩, fun HP9 => ?_⟩
    · clear h9; go_simp; first | done | rfl
    clear HP8
    refine R_all [9] (by kernel_rfl) ?_
    refine AllR.cons (i := 9) rfl (fun K9 HK9 => ?_) ?_
    · go_simp
      refine (pairOf_any _ a b).mono ?_
      rintro e w1 ⟨rfl, hb1⟩
      rw [← HX.out.1, ← HX.out.2]
      have G1 := Kp.mk (G0.out.below hb1)
      have B1 := Kp.mk ((Below.refl _ w).drew.trans hb1)
      have hlk := LK.out _ G1.out
      rw [HLO.out] at hlk
      have hlk' : (Instr.lookup 62 (.map (some lm)) (.agg #[.int .i64 x, .int .i64 y]) false).run Try.prog w1 = .ok (.int .i64 0) w1 := hlk
      clear hb1 hlk
      go_simp
      refine HK9.out _ _ (.inr G1.out.c2) (fun HP10 => ?_)
      clear HK9 K9
      refine R_all [10] (by kernel_rfl) ?_
      refine AllR.cons (i := 10) rfl (fun K9 HK9 => ?_) ?_
      · go_simp
        refine HK9.out _ _ (.inr G1.out.c2) (fun HP11 => ?_)
        clear HK9 K9
        refine R_pure 11 rfl (by kernel_rfl) HP11 ?_
        apply Exists.intro
        refine ⟨fun _ _ _ h => h, .inl ⟨by kernel_rfl, fun w9 h9 => ?_⟩, fun HP12 => ?_⟩
        · clear h9; go_simp; first | done | rfl
        clear HP11
        refine R_pure 12 rfl (by kernel_rfl) HP12 ?_
        apply Exists.intro
        refine ⟨fun _ _ _ h => h, .inl ⟨by kernel_rfl, fun w9 h9 => ?_⟩, fun HP13 => ?_⟩
        · clear h9; go_simp; first | done | rfl
        clear HP12
        refine R_pure 13 rfl (by kernel_rfl) HP13 ?_
        apply Exists.intro
        refine ⟨fun _ _ _ h => h, .inl ⟨by kernel_rfl, fun w9 h9 => ?_⟩, fun HP14 => ?_⟩
        · clear h9; go_simp; first | done | rfl
        clear HP13
        refine R_done (by kernel_rfl) ?_
        go_wp2
        go_ret
        exact ⟨by rw [hE0.out]; rfl, B1.out⟩
      exact AllR.nil
    exact AllR.nil
end Go.Proofs.Ytlbbheopoflmjaa
