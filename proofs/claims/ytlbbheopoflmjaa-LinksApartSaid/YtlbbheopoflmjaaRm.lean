/- The document's Find and Leave of package links; bounds stand in each statement. -/
import Derived.Test.YtlbbheopoflmjaaRl
import Derived.Test.YtlbbheopoflmjaaV
namespace Go.Proofs.Ytlbbheopoflmjaa
open Go.RowKit

def dFindE (L : List Bd) (r : Int) : Int := if 0 < r ∧ hasR L r then 0 else 5
def dFindB (L : List Bd) (r : Int) : Bd := if 0 < r then (L.find? (fun x => decide (x.r = r))).getD ⟨0, 0, 0⟩ else ⟨0, 0, 0⟩
theorem first_find {L : List Bd} {r : Int} {i : Nat} {x : Bd} (h1 : L[i]? = some x) (h2 : x.r = r) (h3 : ∀ (j : Nat) y, j < i → L[j]? = some y → y.r ≠ r) : L.find? (fun x => decide (x.r = r)) = some x := by
  induction L generalizing i with
  | nil => simp at h1
  | cons z L ih =>
    cases i with
    | zero =>
      simp only [List.getElem?_cons_zero, Option.some.injEq] at h1
      subst h1
      simp [h2]
    | succ i =>
      have hz : z.r ≠ r := h3 0 z (by omega) (by simp)
      rw [List.find?_cons_of_neg (by simpa using hz)]
      exact ih (by simpa using h1) (fun j y hj hy => h3 (j + 1) y (by omega) (by simpa using hy))
theorem dFind_yes {L : List Bd} {r : Int} {i : Nat} {x : Bd} (h0 : 0 < r) (h1 : L[i]? = some x) (h2 : x.r = r) (h3 : ∀ (j : Nat) y, j < i → L[j]? = some y → y.r ≠ r) : dFindE L r = 0 ∧ dFindB L r = x := by
  unfold dFindE dFindB
  rw [if_pos ⟨h0, x, List.mem_of_getElem? h1, h2⟩, if_pos h0, first_find h1 h2 h3]
  exact ⟨rfl, rfl⟩
theorem dFind_no {L : List Bd} {r : Int} (h : ¬ (0 < r ∧ hasR L r)) : dFindE L r = 5 ∧ dFindB L r = ⟨0, 0, 0⟩ := by
  unfold dFindE dFindB
  rw [if_neg h]
  refine ⟨rfl, ?_⟩
  split
  · rename_i h0
    have : L.find? (fun x => decide (x.r = r)) = none := by
      rw [List.find?_eq_none]
      intro x hx
      have : ¬ x.r = r := fun e => h ⟨h0, x, hx, e⟩
      simpa using this
    rw [this]; rfl
  · rfl
theorem AtR.cases {L : List Bd} {r k : Int} (h : AtR L r k) : (∃ (i : Nat) (x : Bd), k = i ∧ L[i]? = some x ∧ i < L.length ∧ dFindE L r = 0 ∧ dFindB L r = x) ∨ (k = -1 ∧ dFindE L r = 5 ∧ dFindB L r = ⟨0, 0, 0⟩) := by
  rcases h with ⟨i, rfl, h0, ⟨x, h1, h2⟩, h3⟩ | ⟨rfl, h1⟩
  · exact .inl ⟨i, x, rfl, h1, (List.getElem?_eq_some_iff.1 h1).1, dFind_yes h0 h1 h2 h3⟩
  · exact .inr ⟨rfl, dFind_no (fun ⟨h0, x, hx, e⟩ => h1 h0 x hx e)⟩
theorem set3_facts {w : World} {z : Nat} {x0 x1 x2 : Value} {T : TypeId} (h : w.heap[z]? = some (.cells #[x0, x1, x2] T (0, 0))) (a b : Value) :
    w.cell? ⟨z, 0, none⟩ = some x0 ∧ w.frozen? ⟨z, 0, none⟩ = false ∧ (w.setCell ⟨z, 0, none⟩ a).cell? ⟨z, 1, none⟩ = some x1 ∧ (w.setCell ⟨z, 0, none⟩ a).frozen? ⟨z, 1, none⟩ = false ∧ ((w.setCell ⟨z, 0, none⟩ a).setCell ⟨z, 1, none⟩ b).cell? ⟨z, 2, none⟩ = some x2 ∧ ((w.setCell ⟨z, 0, none⟩ a).setCell ⟨z, 1, none⟩ b).frozen? ⟨z, 2, none⟩ = false := by
  have h1 := blk_set h 0 a
  have h2 := blk_set h1 1 b
  exact ⟨blk_c h 0, blk_f h 0, blk_c h1 1, blk_f h1 1, blk_c h2 2, blk_f h2 2⟩
def DFindPost (w : World) (L : List Bd) (r : Int) (e : Ending) (w' : World) : Prop :=
  e = .returned (.tuple #[.agg #[.int .i64 (dFindB L r).a, .int .i64 (dFindB L r).b, .int .i64 (dFindB L r).r], .int .i64 (dFindE L r)]) ∧ Below w.heap.size w w'
set_option maxRecDepth 100000 in
set_option maxHeartbeats 4000000 in
theorem dfind_any (w : World) (q : Nat) (lv : Value) (L : List Bd) (r : Int) (h : IsD w q lv L) (hn : L.length ≤ 1000000) :
    Calls Try.prog 38 #[.pointer (some ⟨q, 0, none⟩), .int .i64 r] w (DFindPost w L r) := by
  obtain ⟨A, c, hv, _, _, hs0, hs1⟩ := h.own.shape
  subst hv
  have Z0 := Kp.mk (blk_new w (.cells #[.int .i64 0, .int .i64 0, .int .i64 0] 48))
  have hb1 : Below w.heap.size w (w.alloc (.cells #[.int .i64 0, .int .i64 0, .int .i64 0] 48)) := (Below.refl _ _).alloc (Nat.le_refl _) _
  have H1 := Kp.mk (h.below hb1)
  have HB1 := Kp.mk hb1
  have HS0 := Kp.mk hs0
  have HS1 := Kp.mk hs1
  clear h hb1 hs0 hs1
  go_enter Try.func38, Try.ntmps38
  go_wp2_with fail
  refine (dwatch_any _ q _ L r H1.out hn).mono ?_
  rintro e w2 ⟨k, hk, rfl, hb2⟩
  have X2 := (hb2.block _ (lt_of_block Z0.out)).trans Z0.out
  have hz2 : w.heap.size < w2.heap.size := lt_of_block X2
  have H2 := Kp.mk (H1.out.below hb2)
  have HB2 := Kp.mk (bstep HB1.out HB1.out.size hb2)
  have HX2 := Kp.mk X2
  rcases hk.cases with ⟨i, x, rfl, hx, hi, hE, hF⟩ | ⟨rfl, hE, hF⟩
  · have hxg : x = L[i] := by rw [List.getElem?_eq_getElem hi] at hx; exact (Option.some.inj hx).symm
    obtain ⟨g, rfl⟩ : ∃ g, A = some ⟨g, 0, none⟩ := by
      cases A with
      | none => have h1 := (HS0.out rfl).1; rw [h1] at hi; simp at hi
      | some y => obtain ⟨g, rfl⟩ := HS1.out y rfl; exact ⟨g, rfl⟩
    have ho := H2.out.own
    have a0 : w2.cell? ⟨g, i * 3, none⟩ = some (.int .i64 x.a) := by have h1 := ho.elem i 0 hi (by decide); rw [← hxg] at h1; simpa [eBd] using h1
    have a1 : w2.cell? ⟨g, i * 3 + 1, none⟩ = some (.int .i64 x.b) := by have h1 := ho.elem i 1 hi (by decide); rw [← hxg] at h1; simpa [eBd] using h1
    have a2 : w2.cell? ⟨g, i * 3 + 2, none⟩ = some (.int .i64 x.r) := by have h1 := ho.elem i 2 hi (by decide); rw [← hxg] at h1; simpa [eBd] using h1
    have q2 := H2.out.c0
    have ql := H2.out.lt
    obtain ⟨z0, f0, z1, f1, z2, f2⟩ := set3_facts X2 (.int .i64 x.a) (.int .i64 x.b)
    have k0 : (0 : Int) ≤ (i : Int) := by omega
    have k1 : (i : Int) < (L.length : Int) := by omega
    have HE := Kp.mk hE
    have HFx := Kp.mk hF
    clear hE hF hx hxg ho hk X2 hb2
    go_wp2
    have c3 := chg3 w2 w.heap.size (.int .i64 x.a) (.int .i64 x.b) (.int .i64 x.r)
    refine bodyPost_ret (results_row_tmp rfl _ _ w.heap.size 48 _ (0, 0) _ rfl (set3 HX2.out _ _ _) Try.underlying48 rfl (by kernel_rfl)) rfl ?_
    exact ⟨by rw [HE.out, HFx.out]; rfl, chg_below HB2.out c3 (fun g hg => by omega) HB2.out.size⟩
  · obtain ⟨z0, f0, z1, f1, z2, f2⟩ := set3_facts X2 (.int .i64 0) (.int .i64 0)
    have HE := Kp.mk hE
    have HFx := Kp.mk hF
    clear hE hF hk X2 hb2
    go_wp2
    have c3 := chg3 w2 w.heap.size (.int .i64 0) (.int .i64 0) (.int .i64 0)
    refine bodyPost_ret (results_row_tmp rfl _ _ w.heap.size 48 _ (0, 0) _ rfl (set3 HX2.out _ _ _) Try.underlying48 rfl (by kernel_rfl)) rfl ?_
    exact ⟨by rw [HE.out, HFx.out]; rfl, chg_below HB2.out c3 (fun g hg => by omega) HB2.out.size⟩
def dLeaveL (L : List Bd) (r : Int) : List Bd := if dFindE L r = 0 then L.erase (dFindB L r) else L
theorem AtR.cases2 {L : List Bd} {r k : Int} (h : AtR L r k) (hE : dFindE L r = 0) : ∃ i : Nat, k = i ∧ i < L.length ∧ L.take i ++ L.drop (i + 1) = L.erase (dFindB L r) := by
  rcases h with ⟨i, rfl, h0, ⟨x, h1, h2⟩, h3⟩ | ⟨rfl, h1⟩
  · refine ⟨i, rfl, (List.getElem?_eq_some_iff.1 h1).1, ?_⟩
    rw [(dFind_yes h0 h1 h2 h3).2]
    exact erase_at h1 (fun j hj e => h3 j x hj e h2)
  · rw [(dFind_no (fun ⟨h0, x, hx, e⟩ => h1 h0 x hx e)).1] at hE
    cases hE
theorem dFindE_01 (L : List Bd) (r : Int) : dFindE L r = 0 ∨ dFindE L r = 5 := by unfold dFindE; split <;> simp
def DLeavePost (w : World) (q : Nat) (lv : Value) (L : List Bd) (r : Int) (e : Ending) (w' : World) : Prop :=
  e = .returned (.tuple #[.agg #[.int .i64 (dFindB L r).a, .int .i64 (dFindB L r).b, .int .i64 (dFindB L r).r], .int .i64 (dFindE L r)]) ∧ DStep w q lv (dLeaveL L r) w'
set_option maxRecDepth 100000 in
set_option maxHeartbeats 4000000 in
theorem dleave_any (w : World) (q : Nat) (lv : Value) (L : List Bd) (r : Int) (h : IsD w q lv L) (hn : L.length ≤ 1000000) :
    Calls Try.prog 37 #[.pointer (some ⟨q, 0, none⟩), .int .i64 r] w (DLeavePost w q lv L r) := by
  have Z0 := Kp.mk (blk_new w (.cells #[.int .i64 0, .int .i64 0, .int .i64 0] 48))
  have hb1 : Below w.heap.size w (w.alloc (.cells #[.int .i64 0, .int .i64 0, .int .i64 0] 48)) := (Below.refl _ _).alloc (Nat.le_refl _) _
  have H1 := Kp.mk (h.below hb1)
  have HB1 := Kp.mk hb1
  have HFD : Kp (∀ g, FD q lv g → g < w.heap.size) := ⟨fun g hg => by
    rcases hg with rfl | hg
    · exact h.lt
    · exact h.own.lt hg⟩
  clear h hb1
  go_enter Try.func37, Try.ntmps37
  go_wp2_with fail
  refine (dfind_any _ q _ L r H1.out hn).mono ?_
  rintro e w2 ⟨rfl, hb2⟩
  have X2 := (hb2.block _ (lt_of_block Z0.out)).trans Z0.out
  have hz2 : w.heap.size < w2.heap.size := lt_of_block X2
  have H2 := Kp.mk (H1.out.below hb2)
  have HB2 := Kp.mk (bstep HB1.out HB1.out.size hb2)
  have HX2 := Kp.mk X2
  obtain ⟨B, hB⟩ : ∃ B, B = dFindB L r := ⟨_, rfl⟩
  rw [← hB]
  obtain ⟨W3, hW3⟩ : ∃ W3, W3 = w2.alloc (.cells #[.int .i64 B.a, .int .i64 B.b, .int .i64 B.r] 48) := ⟨_, rfl⟩
  have hb3 : Below w2.heap.size w2 W3 := by rw [hW3]; exact (Below.refl _ _).alloc (Nat.le_refl _) _
  have Y3 : Kp (W3.heap[w2.heap.size]? = some (.cells #[.int .i64 B.a, .int .i64 B.b, .int .i64 B.r] 48 (0, 0))) := ⟨by rw [hW3]; exact blk_new _ _⟩
  have H3 := Kp.mk (H2.out.below hb3)
  have X3 := Kp.mk ((hb3.block _ hz2).trans X2)
  have HB3 := Kp.mk (bstep HB2.out HB2.out.size hb3)
  have HW3 := Kp.mk hW3
  have HBe := Kp.mk hB
  clear hb2 X2 hb3
  rcases dFindE_01 L r with hE | hE
  · rw [hE]
    have HE := Kp.mk hE
    clear hE hB hW3
    go_wp2_with (first
      | (go_at_call 34; rw [← HW3.out]; refine (dwatch_any _ q _ L r H3.out hn).mono ?_; rintro e w4 ⟨k, hk, rfl, hb4⟩; obtain ⟨i, rfl, hi, her⟩ := hk.cases2 HE.out; have HER := Kp.mk her; have HB4 := Kp.mk (bstep HB3.out HB3.out.size hb4); have H4 := Kp.mk (H3.out.below hb4); have X4 := Kp.mk ((hb4.block _ (lt_of_block X3.out)).trans X3.out); have Y4 := Kp.mk ((hb4.block _ (lt_of_block Y3.out)).trans Y3.out); clear hk hb4 her)
      | (go_at_call 52; refine (dout_any _ q _ L i H4.out hi hn).mono ?_; rintro e w5 ⟨⟨v5, rfl⟩, lv5, h5, hf5, hc5⟩; have y5 := hc5.at Y4.out (fun hg => by have := HFD.out _ hg; omega); have x5 := hc5.at X4.out (fun hg => by have := HFD.out _ hg; omega); have b50 := blk_c y5 0; have b51 := blk_c y5 1; have b52 := blk_c y5 2; obtain ⟨z0, f0, z1, f1, z2, f2⟩ := set3_facts x5 (.int .i64 B.a) (.int .i64 B.b); have H5 := Kp.mk h5; have HF5 := Kp.mk hf5; have HC5 := Kp.mk hc5; have HX5 := Kp.mk x5; have HX4 := Kp.mk (lt_of_block X4.out); have hzl := lt_of_block x5; clear h5 hf5 hc5 y5 x5))
    have c3 := chg3 w5 w.heap.size (.int .i64 B.a) (.int .i64 B.b) (.int .i64 B.r)
    refine bodyPost_ret (results_row_tmp rfl _ _ w.heap.size 48 _ (0, 0) _ rfl (set3 HX5.out _ _ _) Try.underlying48 rfl (by kernel_rfl)) rfl ?_
    refine ⟨by rw [HE.out, ← HBe.out]; rfl, lv5, ?_, ?_, fun g hg => .inr (Nat.le_trans HB4.out.size (HF5.out g hg))⟩
    · have e : dLeaveL L r = L.take i ++ L.drop (i + 1) := by unfold dLeaveL; rw [if_pos HE.out, HER.out]
      rw [e]
      refine H5.out.frame c3 (fun g hg e => ?_)
      subst e
      rcases hg with hg | hg
      · have := HFD.out q (.inl rfl); omega
      · have := HF5.out _ hg; have := HX4.out; omega
    · exact ((Chg.of_below HB4.out (FD q lv)).then HC5.out).trans c3 (fun g hg e => by omega)
  · rw [hE]
    have HE := Kp.mk hE
    have hzl : w.heap.size < w2.heap.size := hz2
    have hzn : w.heap.size ≠ w2.heap.size := by omega
    have z0 : (w2.alloc (.cells #[.int .i64 B.a, .int .i64 B.b, .int .i64 B.r] 48)).cell? ⟨w.heap.size, 0, none⟩ = some (.int .i64 0) := blk_c (blk_alloc HX2.out _) 0
    have f0 : (w2.alloc (.cells #[.int .i64 B.a, .int .i64 B.b, .int .i64 B.r] 48)).frozen? ⟨w.heap.size, 0, none⟩ = false := blk_f (blk_alloc HX2.out _) 0
    have b1 := blk_alloc (blk_set HX2.out 0 (.int .i64 B.a)) (.cells #[.int .i64 B.a, .int .i64 B.b, .int .i64 B.r] 48)
    have b2 := blk_alloc (blk_set (blk_set HX2.out 0 (.int .i64 B.a)) 1 (.int .i64 B.b)) (.cells #[.int .i64 B.a, .int .i64 B.b, .int .i64 B.r] 48)
    have z1 : ((w2.setCell ⟨w.heap.size, 0, none⟩ (.int .i64 B.a)).alloc (.cells #[.int .i64 B.a, .int .i64 B.b, .int .i64 B.r] 48)).cell? ⟨w.heap.size, 1, none⟩ = some (.int .i64 0) := blk_c b1 1
    have z2 : (((w2.setCell ⟨w.heap.size, 0, none⟩ (.int .i64 B.a)).setCell ⟨w.heap.size, 1, none⟩ (.int .i64 B.b)).alloc (.cells #[.int .i64 B.a, .int .i64 B.b, .int .i64 B.r] 48)).cell? ⟨w.heap.size, 2, none⟩ = some (.int .i64 0) := blk_c b2 2
    have f1 : ((w2.setCell ⟨w.heap.size, 0, none⟩ (.int .i64 B.a)).alloc (.cells #[.int .i64 B.a, .int .i64 B.b, .int .i64 B.r] 48)).frozen? ⟨w.heap.size, 1, none⟩ = false := blk_f b1 1
    have f2 : (((w2.setCell ⟨w.heap.size, 0, none⟩ (.int .i64 B.a)).setCell ⟨w.heap.size, 1, none⟩ (.int .i64 B.b)).alloc (.cells #[.int .i64 B.a, .int .i64 B.b, .int .i64 B.r] 48)).frozen? ⟨w.heap.size, 2, none⟩ = false := blk_f b2 2
    clear b1 b2 hE hB hW3
    go_wp2
    have c3 := chg3 w2 w.heap.size (.int .i64 B.a) (.int .i64 B.b) (.int .i64 B.r)
    refine bodyPost_ret (results_row_tmp rfl _ _ w.heap.size 48 _ (0, 0) _ rfl (blk_alloc (set3 HX2.out _ _ _) _) Try.underlying48 rfl (by kernel_rfl)) rfl ?_
    have hb9 := (chg_below HB2.out c3 (fun g hg => by omega) HB2.out.size).alloc (by simp; omega) (.cells #[.int .i64 B.a, .int .i64 B.b, .int .i64 B.r] 48)
    have el : dLeaveL L r = L := by unfold dLeaveL; rw [if_neg (by rw [HE.out]; decide)]
    refine ⟨by rw [HE.out, ← HBe.out]; rfl, ?_⟩
    rw [el]
    refine ⟨lv, ?_, Chg.of_below hb9 _, fun _ hg => .inl hg⟩
    exact (H2.out.frame c3 (fun g hg e => by have := HFD.out g hg; omega)).below ((Below.refl _ _).alloc (Nat.le_refl _) _)
end Go.Proofs.Ytlbbheopoflmjaa
