/- What put and out of package links do to a graph; bounds stand in each statement. -/
import Derived.Test.YtameidoaenoppaaGreatDoorLP
namespace Go.Proofs.YtameidoaenoppaaGreatDoor
open Go.RowKit

section
variable {w w' : World} {p bm lm rm : Nat} {last : Int} {eb : List (Int × Value)} {el : List ((Int × Int) × Value)} {er : List (Int × Value)}
theorem chg_set (w : World) (p k : Nat) (u : Value) : Chg (fun g => g = p) w (w.setCell ⟨p, k, none⟩ u) := (Chg.refl (fun g => g = p) w).set (p := ⟨p, k, none⟩) (.inl rfl) u
theorem G3.bump (h : G3 w p bm lm rm last eb el er) (l' : Int) : G3 (w.setCell ⟨p, 1, none⟩ (.int .i64 l')) p bm lm rm l' eb el er := by
  obtain ⟨n1, n2, n3⟩ := h.pne
  have hc := chg_set w p 1 (.int .i64 l')
  exact ⟨by rw [blk_set h.blk]; rfl, h.mb.frame hc (Ne.symm n1), h.ml.frame hc (Ne.symm n2), h.mr.frame hc (Ne.symm n3), h.ne⟩
theorem G3.setB (h : G3 w p bm lm rm last eb el er) {eb' : List (Int × Value)} (hm : IsMapV K2 w' bm eb') (hc : Chg (fun g => g = bm) w w') : G3 w' p bm lm rm last eb' el er := by
  obtain ⟨n1, n2, n3⟩ := h.pne
  obtain ⟨m1, m2, m3⟩ := h.ne
  exact ⟨hc.at h.blk n1, hm, h.ml.frame hc (Ne.symm m1), h.mr.frame hc (Ne.symm m2), h.ne⟩
theorem G3.setL (h : G3 w p bm lm rm last eb el er) {el' : List ((Int × Int) × Value)} (hm : IsMapV K77 w' lm el') (hc : Chg (fun g => g = lm) w w') : G3 w' p bm lm rm last eb el' er := by
  obtain ⟨n1, n2, n3⟩ := h.pne
  obtain ⟨m1, m2, m3⟩ := h.ne
  exact ⟨hc.at h.blk n2, h.mb.frame hc m1, hm, h.mr.frame hc (Ne.symm m3), h.ne⟩
theorem G3.setR (h : G3 w p bm lm rm last eb el er) {er' : List (Int × Value)} (hm : IsMapV K2 w' rm er') (hc : Chg (fun g => g = rm) w w') : G3 w' p bm lm rm last eb el er' := by
  obtain ⟨n1, n2, n3⟩ := h.pne
  obtain ⟨m1, m2, m3⟩ := h.ne
  exact ⟨hc.at h.blk n3, h.mb.frame hc m2, h.ml.frame hc m3, hm, h.ne⟩
theorem G3.drew (h : G3 w p bm lm rm last eb el er) : G3 w.drew p bm lm rm last eb el er := h.below (Below.refl _ _).drew
theorem G3.al (h : G3 w p bm lm rm last eb el er) (o : Obj) : G3 (w.alloc o) p bm lm rm last eb el er := h.below ((Below.refl _ _).alloc (Nat.le_refl _) _)
end
set_option maxRecDepth 100000 in
set_option maxHeartbeats 2000000 in
theorem put_any (w : World) (p bm lm rm : Nat) (last : Int) (eb : List (Int × Value)) (el : List ((Int × Int) × Value)) (er : List (Int × Value)) (x : Bd) (h : G3 w p bm lm rm last eb el er) (hlen : eb.length ≤ 1024) (h0 : 0 ≤ last) (h1 : last ≤ 1000000000000000000) :
    Calls Tryz.prog 45 #[.pointer (some ⟨p, 0, none⟩), .agg #[.int .i64 x.a, .int .i64 x.b, .int .i64 x.r]] w fun e w' => e = .returned (.int .i64 (last + 1)) ∧ G3 w' p bm lm rm (last + 1) (putE eb (last + 1) (vB x)) el er ∧ Chg (FG p bm lm rm) w w' := by
  obtain ⟨o, ho⟩ : ∃ o : Obj, o = .cells #[.int .i64 x.a, .int .i64 x.b, .int .i64 x.r] 71 := ⟨_, rfl⟩
  obtain ⟨W1, hW1⟩ : ∃ W1, W1 = (w.setCell ⟨p, 1, none⟩ (.int .i64 (last + 1))).alloc (.cells #[.int .i64 x.a, .int .i64 x.b, .int .i64 x.r] 71) := ⟨_, rfl⟩
  have g1 : G3 W1 p bm lm rm (last + 1) eb el er := by rw [hW1]; exact (h.bump (last + 1)).al _
  have hx1 : W1.heap[w.heap.size]? = some (.cells #[.int .i64 x.a, .int .i64 x.b, .int .i64 x.r] 71 (0, 0)) := by
    have hh := blk_new (w.setCell ⟨p, 1, none⟩ (.int .i64 (last + 1))) (.cells #[.int .i64 x.a, .int .i64 x.b, .int .i64 x.r] 71)
    rw [World.size_setCell] at hh
    rw [hW1]; exact hh
  have hc1 : Chg (FG p bm lm rm) w W1 := by rw [hW1]; exact ((chg_set w p 1 _).mono fun _ _ e => .inl e).alloc _
  obtain ⟨w3, hr3, m3, c3⟩ := g1.mb.drew.put Tryz.underlying83 (by simp [maxLen]; omega) (last + 1) (vB x) (ok2 _ (by omega) (by omega))
  have hr3' : (Instr.mapUpdate 83 (.map (some bm)) (.int .i64 (last + 1)) (.agg #[.int .i64 x.a, .int .i64 x.b, .int .i64 x.r])).run Tryz.prog W1.drew = .ok () w3 := hr3
  have g3 : G3 w3 p bm lm rm (last + 1) (putE eb (last + 1) (vB x)) el er := g1.drew.setB m3 c3
  have c4 : Chg (FG p bm lm rm) w w3 := hc1.drew.trans c3 (fun g _ e => .inr (.inl e))
  have hc0 := h.c0
  have hc1' := h.c1
  have hps := lt_of_block h.blk
  have hfz := blk_f h.blk 1
  have h9 : IntKind.i64.wrap (last + 1) = last + 1 := by rw [IntKind.wrap_i64]; omega
  have G1 := Kp.mk g1
  have G3 := Kp.mk g3
  have C4 := Kp.mk c4
  have X1 := Kp.mk hx1
  have HW := Kp.mk hW1
  clear h g1 m3 c3 g3 c4 hc1 hr3 hx1 hW1 ho
  go_enter Tryz.func45, Tryz.ntmps45
  go_upto_region 2 with fail
  rw [← HW.out]
  refine R_begin 9 (fun w9 => w9.cell? ⟨p, 0, none⟩ = some (.map (some bm)) ∧ w9.cell? ⟨p, 1, none⟩ = some (.int .i64 (last + 1)) ∧ w9.cell? ⟨w.heap.size, 0, none⟩ = some (.int .i64 x.a) ∧ w9.cell? ⟨w.heap.size, 1, none⟩ = some (.int .i64 x.b) ∧ w9.cell? ⟨w.heap.size, 2, none⟩ = some (.int .i64 x.r)) (by kernel_rfl) ⟨G1.out.drew.c0, G1.out.drew.c1, blk_c X1.out 0, blk_c X1.out 1, blk_c X1.out 2⟩ (fun HP0 => ?_)
  refine R_pure 0 rfl (by kernel_rfl) HP0 ?_
  apply Exists.intro
  refine ⟨fun _ _ _ h => h, .inl ⟨by kernel_rfl, fun w9 h9 => ?_⟩, fun HP1 => ?_⟩
  · clear h9; go_simp; first | done | rfl
  clear HP0
  refine R_pure 1 rfl (by kernel_rfl) HP1 ?_
  apply Exists.intro
  refine ⟨fun _ _ _ h => h, .inl ⟨by kernel_rfl, fun w9 h9 => ?_⟩, fun HP2 => ?_⟩
  · clear h9; go_simp; first | done | rfl
  clear HP1
  refine R_pure 2 rfl (by kernel_rfl) HP2 ?_
  apply Exists.intro
  refine ⟨fun _ _ _ h => h, .inl ⟨by kernel_rfl, fun w9 h9 => ?_⟩, fun HP3 => ?_⟩
  · clear h9; go_simp; first | done | rfl
  clear HP2
  refine R_take 3 rfl (by kernel_rfl) HP3 ?_
  apply Exists.intro
  refine ⟨fun _ _ _ h => h, .inl ⟨by kernel_rfl, fun w9 h9 => ?_⟩, fun HP4 => ?_⟩
  · obtain ⟨s1, s2, s3, s4, s5⟩ := h9; go_simp; first | done | rfl
  clear HP3
  refine R_pure 4 rfl (by kernel_rfl) HP4 ?_
  apply Exists.intro
  refine ⟨fun _ _ _ h => h, .inl ⟨by kernel_rfl, fun w9 h9 => ?_⟩, fun HP5 => ?_⟩
  · clear h9; go_simp; first | done | rfl
  clear HP4
  refine R_pure 5 rfl (by kernel_rfl) HP5 ?_
  apply Exists.intro
  refine ⟨fun _ _ _ h => h, .inl ⟨by kernel_rfl, fun w9 h9 => ?_⟩, fun HP6 => ?_⟩
  · clear h9; go_simp; first | done | rfl
  clear HP5
  refine R_pure 6 rfl (by kernel_rfl) HP6 ?_
  apply Exists.intro
  refine ⟨fun _ _ _ h => h, .inl ⟨by kernel_rfl, fun w9 h9 => ?_⟩, fun HP7 => ?_⟩
  · clear h9; go_simp; first | done | rfl
  clear HP6
  refine R_take 7 rfl (by kernel_rfl) HP7 ?_
  apply Exists.intro
  refine ⟨fun _ _ _ h => h, .inl ⟨by kernel_rfl, fun w9 h9 => ?_⟩, fun HP8 => ?_⟩
  · obtain ⟨s1, s2, s3, s4, s5⟩ := h9; go_simp; first | done | rfl
  clear HP7
  refine R_take 8 rfl (by kernel_rfl) HP8 ?_
  apply Exists.intro
  refine ⟨fun _ _ _ h => h, .inl ⟨by kernel_rfl, fun w9 h9 => ?_⟩, fun HP9 => ?_⟩
  · obtain ⟨s1, s2, s3, s4, s5⟩ := h9; go_simp; first | done | rfl
  clear HP8
  refine R_all [9] (by kernel_rfl) ?_
  refine AllR.cons (i := 9) rfl (fun K9 HK9 => ?_) ?_
  · go_simp
    refine HK9.out _ _ (.inl (by kernel_rfl)) (fun HP10 => ?_)
    clear HK9 K9
    refine R_done (by kernel_rfl) ?_
    have q0 := G3.out.c0
    have q1 := G3.out.c1
    have q2 := lt_of_block G3.out.blk
    go_wp2
    go_ret
    exact ⟨rfl, G3.out, C4.out⟩
  exact AllR.nil
set_option maxRecDepth 100000 in
set_option maxHeartbeats 2000000 in
theorem out_any (w : World) (p bm lm rm : Nat) (ns : List NB) (last n : Int) (x : Bd) (h : IsG w p bm lm rm ns last) (hx : (n, x) ∈ ns) (hl : last ≤ 1000000000000000000) :
    Calls Tryz.prog 60 #[.pointer (some ⟨p, 0, none⟩), .int .i64 n] w fun e w' => (∃ v, e = .returned v) ∧ IsG w' p bm lm rm (outN ns n) last ∧ Chg (FG p bm lm rm) w w' := by
  obtain ⟨xa, xb, xr⟩ := x
  have hr00 : xr = 0 ∨ xr ≠ 0 := by omega
  rcases hr00 with rfl | h0
  · skip
    have hn := h.ok.top _ hx
    have hgd := h.ok.good _ hx
    simp only at hn
    have hpa : 1 ≤ xa ∧ xa ≤ 1099511627776 := hgd.1
    have hpb : 1 ≤ xb ∧ xb ≤ 1099511627776 := hgd.2.1
    have okn : K2.ok n := ok2 n (by omega) (by omega)
    have hl0 : (Instr.lookup 83 (.map (some bm)) (.int .i64 n) false).run Tryz.prog w = .ok (.agg #[.int .i64 xa, .int .i64 xb, .int .i64 0]) w := by
      have h1 := h.g.mb.get Tryz.underlying83 (Tryz.zeroValue71 w) n okn
      rw [(look_bonds h.ok).2 ⟨_, hx, rfl⟩] at h1
      exact h1
    obtain ⟨W1, hW1⟩ : ∃ W1, W1 = w.alloc (.cells #[.int .i64 xa, .int .i64 xb, .int .i64 0] 71) := ⟨_, rfl⟩
    have g1 : G3 W1 p bm lm rm last (bondsE ns) (linksE ns) (refsE ns) := by rw [hW1]; exact h.g.al _
    have hx1 : W1.heap[w.heap.size]? = some (.cells #[.int .i64 xa, .int .i64 xb, .int .i64 0] 71 (0, 0)) := by rw [hW1]; exact blk_new w _
    have hc1 : Chg (FG p bm lm rm) w W1 := by rw [hW1]; exact (Chg.refl _ w).alloc _
    obtain ⟨w2, hr2, m2, c2⟩ := g1.mb.del Tryz.underlying83 n okn 0
    have hr2' : (Builtin.delete_ #[83, 2] 0 #[.map (some bm), .int .i64 n]).run Tryz.prog W1 = .ok (.tuple #[]) w2 := hr2
    rw [hW1] at hr2'
    rw [cut_bonds] at m2
    have g2 : G3 w2 p bm lm rm last (bondsE (outN ns n)) (linksE ns) (refsE ns) := g1.setB m2 c2
    have hx2 := c2.at hx1 (by have := h.g.mb.lt; omega)
    have hc2 : Chg (FG p bm lm rm) w w2 := hc1.trans c2 (fun g _ e => .inr (.inl e))
    have hc0 := h.g.c0
    have hq0 := g1.c0
    rw [hW1] at hq0
    have hps := lt_of_block h.g.blk
    have hr2c := blk_c hx2 2
    have G2 := Kp.mk g2
    have C2 := Kp.mk hc2
    have X2 := Kp.mk hx2
    have OK := Kp.mk (h.ok.out n)
    have hm : (n, (⟨xa, xb, 0⟩ : Bd)) ∈ ns := hx
    obtain ⟨e1, e2⟩ := cut_links h.ok hm
    have okp : K77.ok (xa, xb) := ⟨ok2 _ (by omega) (by omega), ok2 _ (by omega) (by omega)⟩
    obtain ⟨w3, hr3, m3, c3⟩ := g2.drew.ml.del Tryz.underlying84 (xa, xb) okp 0
    have hr3' : (Builtin.delete_ #[84, 92] 0 #[.map (some lm), .agg #[.int .i64 xa, .int .i64 xb]]).run Tryz.prog w2.drew = .ok (.tuple #[]) w3 := hr3
    rw [e1] at m3
    have g3 : G3 w3 p bm lm rm last (bondsE (outN ns n)) (linksE (outN ns n)) (refsE (outN ns n)) := by rw [e2]; exact g2.drew.setL m3 c3
    have G3 := Kp.mk g3
    have C3 := Kp.mk (hc2.drew.trans c3 (fun g _ e => .inr (.inr (.inl e))))
    have X3 := Kp.mk (c3.at (b := w.heap.size) hx2 (by have := h.g.ml.lt; omega))
    clear h g1 hW1 hx1 hc1 hr2 m2 c2 g2 hx2 hc2 hr3 m3 c3 g3 e1 e2 hm hx
    go_enter Tryz.func60, Tryz.ntmps60
    go_upto_region 3 with fail
    refine R_begin 999 (fun w9 => w9.cell? ⟨p, 2, none⟩ = some (.map (some lm)) ∧ w9.cell? ⟨w.heap.size, 0, none⟩ = some (.int .i64 xa) ∧ w9.cell? ⟨w.heap.size, 1, none⟩ = some (.int .i64 xb)) (by kernel_rfl) ⟨G2.out.drew.c2, blk_c X2.out 0, blk_c X2.out 1⟩ (fun HP0 => ?_)
    refine R_pure 0 rfl (by kernel_rfl) HP0 ?_
    apply Exists.intro
    refine ⟨fun _ _ _ h => h, .inl ⟨by kernel_rfl, fun w9 h9 => ?_⟩, fun HP1 => ?_⟩
    · clear h9; go_simp; first | done | rfl
    clear HP0
    refine R_pure 1 rfl (by kernel_rfl) HP1 ?_
    apply Exists.intro
    refine ⟨fun _ _ _ h => h, .inl ⟨by kernel_rfl, fun w9 h9 => ?_⟩, fun HP2 => ?_⟩
    · clear h9; go_simp; first | done | rfl
    clear HP1
    refine R_pure 2 rfl (by kernel_rfl) HP2 ?_
    apply Exists.intro
    refine ⟨fun _ _ _ h => h, .inl ⟨by kernel_rfl, fun w9 h9 => ?_⟩, fun HP3 => ?_⟩
    · clear h9; go_simp; first | done | rfl
    clear HP2
    refine R_take 3 rfl (by kernel_rfl) HP3 ?_
    apply Exists.intro
    refine ⟨fun _ _ _ h => h, .inl ⟨by kernel_rfl, fun w9 h9 => ?_⟩, fun HP4 => ?_⟩
    · obtain ⟨s1, s2, s3⟩ := h9; go_simp; first | done | rfl
    clear HP3
    refine R_pure 4 rfl (by kernel_rfl) HP4 ?_
    apply Exists.intro
    refine ⟨fun _ _ _ h => h, .inl ⟨by kernel_rfl, fun w9 h9 => ?_⟩, fun HP5 => ?_⟩
    · clear h9; go_simp; first | done | rfl
    clear HP4
    refine R_take 5 rfl (by kernel_rfl) HP5 ?_
    apply Exists.intro
    refine ⟨fun _ _ _ h => h, .inl ⟨by kernel_rfl, fun w9 h9 => ?_⟩, fun HP6 => ?_⟩
    · obtain ⟨s1, s2, s3⟩ := h9; go_simp; first | done | rfl
    clear HP5
    refine R_pure 6 rfl (by kernel_rfl) HP6 ?_
    apply Exists.intro
    refine ⟨fun _ _ _ h => h, .inl ⟨by kernel_rfl, fun w9 h9 => ?_⟩, fun HP7 => ?_⟩
    · clear h9; go_simp; first | done | rfl
    clear HP6
    refine R_take 7 rfl (by kernel_rfl) HP7 ?_
    apply Exists.intro
    refine ⟨fun _ _ _ h => h, .inl ⟨by kernel_rfl, fun w9 h9 => ?_⟩, fun HP8 => ?_⟩
    · obtain ⟨s1, s2, s3⟩ := h9; go_simp; first | done | rfl
    clear HP7
    refine R_pure 8 rfl (by kernel_rfl) HP8 ?_
    apply Exists.intro
    refine ⟨fun _ _ _ h => h, .inl ⟨by kernel_rfl, fun w9 h9 => ?_⟩, fun HP9 => ?_⟩
    · clear h9; go_simp; first | done | rfl
    clear HP8
    refine R_all [9] (by kernel_rfl) ?_
    refine AllR.cons (i := 9) rfl (fun K9 HK9 => ?_) ?_
    · go_simp
      refine HK9.out _ _ (.inr ⟨G3.out.c2, blk_c X3.out 0, blk_c X3.out 1⟩) (fun HP10 => ?_)
      clear HK9 K9
      refine R_done (by kernel_rfl) ?_
      go_wp2
      go_end0
      exact ⟨⟨_, rfl⟩, ⟨G3.out, OK.out⟩, C3.out⟩
    exact AllR.nil
  · skip
    have hn := h.ok.top _ hx
    have hgd := h.ok.good _ hx
    simp only at hn
    have hpa : 1 ≤ xa ∧ xa ≤ 1099511627776 := hgd.1
    have hpb : 1 ≤ xb ∧ xb ≤ 1099511627776 := hgd.2.1
    have hpr : xr = 0 ∧ xa < xb ∨ 1 ≤ xr ∧ xr ≤ 281474976710656 := hgd.2.2
    have okn : K2.ok n := ok2 n (by omega) (by omega)
    have hl0 : (Instr.lookup 83 (.map (some bm)) (.int .i64 n) false).run Tryz.prog w = .ok (.agg #[.int .i64 xa, .int .i64 xb, .int .i64 xr]) w := by
      have h1 := h.g.mb.get Tryz.underlying83 (Tryz.zeroValue71 w) n okn
      rw [(look_bonds h.ok).2 ⟨_, hx, rfl⟩] at h1
      exact h1
    obtain ⟨W1, hW1⟩ : ∃ W1, W1 = w.alloc (.cells #[.int .i64 xa, .int .i64 xb, .int .i64 xr] 71) := ⟨_, rfl⟩
    have g1 : G3 W1 p bm lm rm last (bondsE ns) (linksE ns) (refsE ns) := by rw [hW1]; exact h.g.al _
    have hx1 : W1.heap[w.heap.size]? = some (.cells #[.int .i64 xa, .int .i64 xb, .int .i64 xr] 71 (0, 0)) := by rw [hW1]; exact blk_new w _
    have hc1 : Chg (FG p bm lm rm) w W1 := by rw [hW1]; exact (Chg.refl _ w).alloc _
    obtain ⟨w2, hr2, m2, c2⟩ := g1.mb.del Tryz.underlying83 n okn 0
    have hr2' : (Builtin.delete_ #[83, 2] 0 #[.map (some bm), .int .i64 n]).run Tryz.prog W1 = .ok (.tuple #[]) w2 := hr2
    rw [hW1] at hr2'
    rw [cut_bonds] at m2
    have g2 : G3 w2 p bm lm rm last (bondsE (outN ns n)) (linksE ns) (refsE ns) := g1.setB m2 c2
    have hx2 := c2.at hx1 (by have := h.g.mb.lt; omega)
    have hc2 : Chg (FG p bm lm rm) w w2 := hc1.trans c2 (fun g _ e => .inr (.inl e))
    have hc0 := h.g.c0
    have hq0 := g1.c0
    rw [hW1] at hq0
    have hps := lt_of_block h.g.blk
    have hr2c := blk_c hx2 2
    have G2 := Kp.mk g2
    have C2 := Kp.mk hc2
    have X2 := Kp.mk hx2
    have OK := Kp.mk (h.ok.out n)
    have hm : (n, (⟨xa, xb, xr⟩ : Bd)) ∈ ns := hx
    obtain ⟨e1, e2⟩ := cut_refs h.ok h0 hm
    obtain ⟨w3, hr3, m3, c3⟩ := g2.drew.mr.del Tryz.underlying85 xr (ok2 _ (by omega) (by omega)) 0
    have hr3' : (Builtin.delete_ #[85, 2] 0 #[.map (some rm), .int .i64 xr]).run Tryz.prog w2.drew = .ok (.tuple #[]) w3 := hr3
    rw [e1] at m3
    have g3 : G3 w3 p bm lm rm last (bondsE (outN ns n)) (linksE (outN ns n)) (refsE (outN ns n)) := by rw [e2]; exact g2.drew.setR m3 c3
    have G3 := Kp.mk g3
    have C3 := Kp.mk (hc2.drew.trans c3 (fun g _ e => .inr (.inr (.inr e))))
    have X3 := Kp.mk (c3.at (b := w.heap.size) hx2 (by have := h.g.mr.lt; omega))
    have h0b : (xr == 0) = false := by simpa using h0
    clear h g1 hW1 hx1 hc1 hr2 m2 c2 g2 hx2 hc2 hr3 m3 c3 g3 e1 e2 hm hx
    go_enter Tryz.func60, Tryz.ntmps60
    go_upto_region 4 with fail
    refine R_begin 999 (fun w9 => w9.cell? ⟨p, 3, none⟩ = some (.map (some rm)) ∧ w9.cell? ⟨w.heap.size, 2, none⟩ = some (.int .i64 xr)) (by kernel_rfl) ⟨G2.out.drew.c3, blk_c X2.out 2⟩ (fun HP0 => ?_)
    refine R_pure 0 rfl (by kernel_rfl) HP0 ?_
    apply Exists.intro
    refine ⟨fun _ _ _ h => h, .inl ⟨by kernel_rfl, fun w9 h9 => ?_⟩, fun HP1 => ?_⟩
    · clear h9; go_simp; first | done | rfl
    clear HP0
    refine R_pure 1 rfl (by kernel_rfl) HP1 ?_
    apply Exists.intro
    refine ⟨fun _ _ _ h => h, .inl ⟨by kernel_rfl, fun w9 h9 => ?_⟩, fun HP2 => ?_⟩
    · clear h9; go_simp; first | done | rfl
    clear HP1
    refine R_pure 2 rfl (by kernel_rfl) HP2 ?_
    apply Exists.intro
    refine ⟨fun _ _ _ h => h, .inl ⟨by kernel_rfl, fun w9 h9 => ?_⟩, fun HP3 => ?_⟩
    · clear h9; go_simp; first | done | rfl
    clear HP2
    refine R_take 3 rfl (by kernel_rfl) HP3 ?_
    apply Exists.intro
    refine ⟨fun _ _ _ h => h, .inl ⟨by kernel_rfl, fun w9 h9 => ?_⟩, fun HP4 => ?_⟩
    · obtain ⟨s1, s2⟩ := h9; go_simp; first | done | rfl
    clear HP3
    refine R_pure 4 rfl (by kernel_rfl) HP4 ?_
    apply Exists.intro
    refine ⟨fun _ _ _ h => h, .inl ⟨by kernel_rfl, fun w9 h9 => ?_⟩, fun HP5 => ?_⟩
    · clear h9; go_simp; first | done | rfl
    clear HP4
    refine R_take 5 rfl (by kernel_rfl) HP5 ?_
    apply Exists.intro
    refine ⟨fun _ _ _ h => h, .inl ⟨by kernel_rfl, fun w9 h9 => ?_⟩, fun HP6 => ?_⟩
    · obtain ⟨s1, s2⟩ := h9; go_simp; first | done | rfl
    clear HP5
    refine R_all [6] (by kernel_rfl) ?_
    refine AllR.cons (i := 6) rfl (fun K9 HK9 => ?_) ?_
    · go_simp
      refine HK9.out _ _ (.inr ⟨G3.out.c3, blk_c X3.out 2⟩) (fun HP7 => ?_)
      clear HK9 K9
      refine R_done (by kernel_rfl) ?_
      go_wp2
      go_end0
      exact ⟨⟨_, rfl⟩, ⟨G3.out, OK.out⟩, C3.out⟩
    exact AllR.nil
end Go.Proofs.YtameidoaenoppaaGreatDoor
