/- What Leave of package links does; bounds stand in each statement. -/
import Derived.Test.YtlbbheopoflmjaaU
namespace Go.Proofs.Ytlbbheopoflmjaa
open Go.RowKit

/-- Without a monitor. -/
def leaveN (ns : List NB) (r : Int) : List NB := ns.filter (fun p => decide (p.2.r ≠ r))
theorem leave_out {ns : List NB} {last n r a b : Int} (h : GOk ns last) (h0 : r ≠ 0) (hn : (n, (⟨a, b, r⟩ : Bd)) ∈ ns) : outN ns n = leaveN ns r := by
  unfold outN leaveN
  refine List.filter_congr fun p hp => ?_
  have : p.1 = n ↔ p.2.r = r := by
    constructor
    · intro e; rw [h.num hp hn e]
    · intro e; have := h.ref hp hn (by rw [e]; exact h0) e; rw [this]
  simp only [ne_eq, this]
theorem set3 {w : World} {z : Nat} {x0 x1 x2 : Value} {T : TypeId} (h : w.heap[z]? = some (.cells #[x0, x1, x2] T (0, 0))) (a b r : Value) :
    (((w.setCell ⟨z, 0, none⟩ a).setCell ⟨z, 1, none⟩ b).setCell ⟨z, 2, none⟩ r).heap[z]? = some (.cells #[a, b, r] T (0, 0)) := by
  have h1 := blk_set h 0 a
  have h2 := blk_set h1 1 b
  have h3 := blk_set h2 2 r
  simpa using h3
theorem chg3 (w : World) (z : Nat) (a b r : Value) : Chg (fun g => g = z) w (((w.setCell ⟨z, 0, none⟩ a).setCell ⟨z, 1, none⟩ b).setCell ⟨z, 2, none⟩ r) :=
  ((chg_set w z 0 a).then (chg_set _ z 1 b)).then (chg_set _ z 2 r)
def LeavePost (w : World) (p bm lm rm : Nat) (ns : List NB) (last r : Int) (e : Ending) (w' : World) : Prop :=
  e = .returned (.tuple #[.agg #[.int .i64 (findB ns r).a, .int .i64 (findB ns r).b, .int .i64 (findB ns r).r], .int .i64 (findE ns r)]) ∧ Chg (FG p bm lm rm) w w' ∧ ((findE ns r ≠ 0 ∧ IsG w' p bm lm rm ns last) ∨ (findE ns r = 0 ∧ IsG w' p bm lm rm (leaveN ns r) last))
set_option maxRecDepth 100000 in
set_option maxHeartbeats 4000000 in
theorem leave_any (w : World) (p bm lm rm : Nat) (ns : List NB) (last r : Int) (h : IsG w p bm lm rm ns last) (hl : last ≤ 900000000000000000) (hr : -9223372036854775808 ≤ r ∧ r ≤ 9223372036854775807) :
    Calls Try.prog 28 #[.pointer (some ⟨p, 0, none⟩), .int .i64 r] w (LeavePost w p bm lm rm ns last r) := by
  have H := Kp.mk h
  have OKR : Kp (K2.ok r) := ⟨ok2 r hr.1 hr.2⟩
  have h1 : IsG (w.alloc (.cells #[.int .i64 0, .int .i64 0, .int .i64 0] 48)) p bm lm rm ns last := ⟨h.g.al _, h.ok⟩
  have FI := Kp.mk (find_any _ p bm lm rm ns last r h1 hl hr)
  have HL := Kp.mk hl
  have H1 := Kp.mk h1
  have Z0 := Kp.mk (blk_new w (.cells #[.int .i64 0, .int .i64 0, .int .i64 0] 48))
  have HLT := Kp.mk h.g.lt
  clear h h1 hl hr
  go_enter Try.func28, Try.ntmps28
  go_wp2_with fail
  refine FI.out.mono ?_
  rintro e w2 ⟨rfl, hb2⟩
  have hz := hb2.size
  rw [World.size_alloc] at hz
  have Z2 : Kp (w2.heap[w.heap.size]? = some (.cells #[.int .i64 0, .int .i64 0, .int .i64 0] 48 (0, 0))) := ⟨(hb2.block _ (lt_of_block Z0.out)).trans Z0.out⟩
  have H2 : Kp (IsG w2 p bm lm rm ns last) := ⟨⟨H1.out.g.below hb2, H.out.ok⟩⟩
  have HB2 : Kp (Below w.heap.size w w2) := ⟨((Below.refl _ w).alloc (Nat.le_refl _) _).trans (hb2.mono (by simp))⟩
  clear hb2 FI H1
  cases hlo : look (refsE ns) r with
  | none =>
    have hE : Kp (findE ns r = 5) := ⟨by unfold findE; rw [hlo]; rfl⟩
    rw [hE.out]
    obtain ⟨B, hB⟩ : ∃ B, B = findB ns r := ⟨_, rfl⟩
    rw [← hB]
    have HBd := Kp.mk hB
    clear hlo hB
    have hzl : w.heap.size < w2.heap.size := by omega
    have hzn : w.heap.size ≠ w2.heap.size := by omega
    have z0 : (w2.alloc (.cells #[.int .i64 B.a, .int .i64 B.b, .int .i64 B.r] 48)).cell? ⟨w.heap.size, 0, none⟩ = some (.int .i64 0) := blk_c (blk_alloc Z2.out _) 0
    have b1 := blk_alloc (blk_set Z2.out 0 (.int .i64 B.a)) (.cells #[.int .i64 B.a, .int .i64 B.b, .int .i64 B.r] 48)
    have b2 := blk_alloc (blk_set (blk_set Z2.out 0 (.int .i64 B.a)) 1 (.int .i64 B.b)) (.cells #[.int .i64 B.a, .int .i64 B.b, .int .i64 B.r] 48)
    have z1 : ((w2.setCell ⟨w.heap.size, 0, none⟩ (.int .i64 B.a)).alloc (.cells #[.int .i64 B.a, .int .i64 B.b, .int .i64 B.r] 48)).cell? ⟨w.heap.size, 1, none⟩ = some (.int .i64 0) := blk_c b1 1
    have z2 : (((w2.setCell ⟨w.heap.size, 0, none⟩ (.int .i64 B.a)).setCell ⟨w.heap.size, 1, none⟩ (.int .i64 B.b)).alloc (.cells #[.int .i64 B.a, .int .i64 B.b, .int .i64 B.r] 48)).cell? ⟨w.heap.size, 2, none⟩ = some (.int .i64 0) := blk_c b2 2
    have f1 : ((w2.setCell ⟨w.heap.size, 0, none⟩ (.int .i64 B.a)).alloc (.cells #[.int .i64 B.a, .int .i64 B.b, .int .i64 B.r] 48)).frozen? ⟨w.heap.size, 1, none⟩ = false := blk_f b1 1
    have f2 : (((w2.setCell ⟨w.heap.size, 0, none⟩ (.int .i64 B.a)).setCell ⟨w.heap.size, 1, none⟩ (.int .i64 B.b)).alloc (.cells #[.int .i64 B.a, .int .i64 B.b, .int .i64 B.r] 48)).frozen? ⟨w.heap.size, 2, none⟩ = false := blk_f b2 2
    clear b1 b2
    have f0 : (w2.alloc (.cells #[.int .i64 B.a, .int .i64 B.b, .int .i64 B.r] 48)).frozen? ⟨w.heap.size, 0, none⟩ = false := blk_f (blk_alloc Z2.out _) 0
    go_wp2
    have c3 := chg3 w2 w.heap.size (.int .i64 B.a) (.int .i64 B.b) (.int .i64 B.r)
    refine bodyPost_ret (results_row_tmp rfl _ _ w.heap.size 48 _ (0, 0) _ rfl (blk_alloc (set3 Z2.out _ _ _) _) Try.underlying48 rfl (by kernel_rfl)) rfl ?_
    refine ⟨by rw [hE.out, ← HBd.out]; rfl, Chg.of_below ((chg_below HB2.out c3 (fun g hg => by omega) HB2.out.size).alloc (by simp; omega) _) _, .inl ⟨by rw [hE.out]; decide, ⟨(H2.out.g.frame c3 (fun g hg e => by have := HLT.out g hg; omega)).al _, H.out.ok⟩⟩⟩
  | some v =>
    obtain ⟨h0, n, xa, xb, hn, rfl⟩ := (look_refs H.out.ok).1 hlo
    have hE : Kp (findE ns r = 0 ∧ findB ns r = ⟨xa, xb, r⟩) := ⟨by unfold findE; rw [hlo]; rfl, find_some H.out.ok h0 hn⟩
    obtain ⟨W3, hW3⟩ : ∃ W3, W3 = w2.alloc (.cells #[.int .i64 xa, .int .i64 xb, .int .i64 r] 48) := ⟨_, rfl⟩
    have g3 : G3 W3 p bm lm rm last (bondsE ns) (linksE ns) (refsE ns) := by rw [hW3]; exact H2.out.g.al _
    have k1 := g3.mr.get Try.underlying63 (Try.zeroValue2 W3) r OKR.out
    rw [hlo] at k1
    have k1' : (Instr.lookup 63 (.map (some rm)) (.int .i64 r) false).run Try.prog W3 = .ok (.int .i64 n) W3 := k1
    rw [hW3] at k1'
    have q3 := g3.c3
    rw [hW3] at q3
    have q1 := lt_of_block H2.out.g.blk
    have OU := Kp.mk (out_any W3 p bm lm rm ns last n ⟨xa, xb, r⟩ ⟨g3, H.out.ok⟩ hn (by have := HL.out; omega))
    have X3 : Kp (W3.heap[w2.heap.size]? = some (.cells #[.int .i64 xa, .int .i64 xb, .int .i64 r] 48 (0, 0))) := ⟨by rw [hW3]; exact blk_new w2 _⟩
    have Z3 : Kp (W3.heap[w.heap.size]? = some (.cells #[.int .i64 0, .int .i64 0, .int .i64 0] 48 (0, 0))) := ⟨by rw [hW3]; exact blk_alloc Z2.out _⟩
    have B3 : Kp (Below w.heap.size w W3) := ⟨by rw [hW3]; exact HB2.out.alloc (by omega) _⟩
    have EO := Kp.mk (leave_out H.out.ok h0 hn)
    have HW3 := Kp.mk hW3
    rw [hE.out.1, hE.out.2]
    clear hlo hn k1 g3 hW3
    go_wp2_with (go_at_call 42; rw [← HW3.out]; refine OU.out.mono ?_; rintro e w4 ⟨⟨v, rfl⟩, g4, c4⟩; have G4 := Kp.mk g4; have C4 := Kp.mk c4; have x4 : w4.heap[w2.heap.size]? = some (.cells #[.int .i64 xa, .int .i64 xb, .int .i64 r] 48 (0, 0)) := c4.at X3.out (fun hF => by have := HLT.out _ hF; omega); have z4 : w4.heap[w.heap.size]? = some (.cells #[.int .i64 0, .int .i64 0, .int .i64 0] 48 (0, 0)) := c4.at Z3.out (fun hF => by have := HLT.out _ hF; omega); have x40 : w4.cell? ⟨w2.heap.size, 0, none⟩ = some (.int .i64 xa) := blk_c x4 0; have x41 : w4.cell? ⟨w2.heap.size, 1, none⟩ = some (.int .i64 xb) := blk_c x4 1; have x42 : w4.cell? ⟨w2.heap.size, 2, none⟩ = some (.int .i64 r) := blk_c x4 2; have z40 : w4.cell? ⟨w.heap.size, 0, none⟩ = some (.int .i64 0) := blk_c z4 0; have z41 : w4.cell? ⟨w.heap.size, 1, none⟩ = some (.int .i64 0) := blk_c z4 1; have z42 : w4.cell? ⟨w.heap.size, 2, none⟩ = some (.int .i64 0) := blk_c z4 2; have f40 : w4.frozen? ⟨w.heap.size, 0, none⟩ = false := blk_f z4 0; have f41 : w4.frozen? ⟨w.heap.size, 1, none⟩ = false := blk_f z4 1; have f42 : w4.frozen? ⟨w.heap.size, 2, none⟩ = false := blk_f z4 2; have Z4 := Kp.mk z4; clear g4 c4 x4 z4)
    have c3 := chg3 w4 w.heap.size (.int .i64 xa) (.int .i64 xb) (.int .i64 r)
    refine bodyPost_ret (results_row_tmp rfl _ _ w.heap.size 48 _ (0, 0) _ rfl (set3 Z4.out _ _ _) Try.underlying48 rfl (by kernel_rfl)) rfl ?_
    refine ⟨by rw [hE.out.1, hE.out.2]; rfl, ((Chg.of_below B3.out _).then C4.out).trans c3 (fun g hg e => by omega), .inr ⟨hE.out.1, ?_⟩⟩
    rw [← EO.out]
    exact ⟨G4.out.g.frame c3 (fun g hg e => by have := HLT.out g hg; omega), G4.out.ok⟩
end Go.Proofs.Ytlbbheopoflmjaa
