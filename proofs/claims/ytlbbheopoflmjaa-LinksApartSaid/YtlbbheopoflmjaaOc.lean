/- What of and every of package links's law collect: the bonds of which something holds, in order, up to most; for a graph that stays, or none. -/
import Derived.Test.YtlbbheopoflmjaaOb
namespace Go.Proofs.Ytlbbheopoflmjaa
open Go.RowKit Go.Shelf
attribute [local go_sem] Oper.semAt_some

set_option maxHeartbeats 1000000 in
theorem order_nil_in (F : Fence) (n : Nat) (h41 : F.fn 41) (hro : F.round = none) (w : World) :
    CallsIn F n Try.prog 41 #[.pointer none] w fun e w' => e = .returned (.slice none 0 0) ∧ w = w' := by
  refine callsIn_of_wp Try.func41 rfl h41 ?_ hro
  simp only [Try.ntmps41, List.size_toArray, List.length_cons, List.length_nil, Nat.reduceAdd, Nat.reduceSub, Array.replicate_succ, Array.replicate_zero, List.push_toArray, List.append_toArray, List.nil_append, List.cons_append]
  gi_wp2
  go_ret
  exact ⟨rfl, rfl⟩
set_option maxHeartbeats 1000000 in
theorem some_nil_in (F : Fence) (n : Nat) (h59 : F.fn 59) (h41 : F.fn 41) (hro : F.round = none) (hn : 1 ≤ n) (W : World) (l Bg Bi : Nat) (hBg : Boxed W Bg 24 (.pointer none)) (J Jx : List Bd → World → Prop) (h0 : J [] W) :
    CallsIn F n Try.prog 59 #[.func (.yield l) #[] #[], .pointer (some ⟨Bg, 0, none⟩), .pointer (some ⟨Bi, 0, none⟩)] W fun e W' => (∃ v, e = .returned v) ∧ ((∃ ys, ys = [] ∧ J ys W') ∨ (∃ pre, pre <+: [] ∧ Jx pre W')) := by
  have hc := hBg.cell
  clear hBg
  refine callsIn_of_wp Try.func59 rfl h59 ?_ hro
  simp only [Try.ntmps59, List.size_toArray, List.length_cons, List.length_nil, Nat.reduceAdd, Nat.reduceSub, Array.replicate_succ, Array.replicate_zero, List.push_toArray, List.append_toArray, List.nil_append, List.cons_append]
  gi_wp2_with (gi_at_call 41; refine (order_nil_in F (n - 1) h41 hro _).mono ?_; rintro e w' ⟨rfl, rfl⟩)
  refine wpIn_loop_rounds 1 ?_
  rw [roundsIn_succ]
  gi_wp2
  go_end0
  exact ⟨⟨_, rfl⟩, .inl ⟨[], rfl, h0⟩⟩
/-- Up to most of them. -/
def cutAt (most : Nat) (xs : List Bd) : List Bd := if most ≤ xs.length then xs.take most else xs
def CollPost (w : World) (xs : List Bd) (e : Ending) (w' : World) : Prop := ∃ v, e = .returned v ∧ Own w' 48 eBd v xs ∧ Fresh w v ∧ Below w.heap.size w w'
set_option maxHeartbeats 1000000 in
theorem mkSome_in (F : Fence) (n : Nat) (h : F.fn 53) (hro : F.round = none) (p0 : Option Addr) (fc : Nat) (lb : Array Value) (w : World) :
    CallsIn F n Try.prog 53 #[.pointer p0, .func (.func fc) #[] lb] w fun e w' => e = .returned (.func (.func 59) #[] #[.pointer (some ⟨w.heap.size, 0, none⟩), .pointer (some ⟨w.heap.size + 1, 0, none⟩)]) ∧ w' = (w.alloc (.cells #[.pointer p0] 24)).alloc (.cells #[.func (.func fc) #[] lb] 83) := by
  refine callsIn_of_wp Try.func53 rfl h ?_ hro
  simp only [Try.ntmps53, List.size_toArray, List.length_cons, List.length_nil, Nat.reduceAdd, Nat.reduceSub, Array.replicate_succ, Array.replicate_zero, List.push_toArray, List.append_toArray, List.nil_append, List.cons_append]
  gi_wp2
  go_ret
  exact ⟨rfl, rfl⟩
set_option maxHeartbeats 1000000 in
theorem mkAll_in (F : Fence) (n : Nat) (h : F.fn 40) (h53 : F.fn 53) (hro : F.round = none) (hn : 1 ≤ n) (p0 : Option Addr) (w : World) :
    CallsIn F n Try.prog 40 #[.pointer p0] w fun e w' => e = .returned (.func (.func 59) #[] #[.pointer (some ⟨w.heap.size, 0, none⟩), .pointer (some ⟨w.heap.size + 1, 0, none⟩)]) ∧ w' = (w.alloc (.cells #[.pointer p0] 24)).alloc (.cells #[.func (.func 54) #[] #[]] 83) := by
  refine callsIn_of_wp Try.func40 rfl h ?_ hro
  simp only [Try.ntmps40, List.size_toArray, List.length_cons, List.length_nil, Nat.reduceAdd, Nat.reduceSub, Array.replicate_succ, Array.replicate_zero, List.push_toArray, List.append_toArray, List.nil_append, List.cons_append]
  gi_wp2_with (gi_at_call 53; refine (mkSome_in F (n - 1) h53 hro _ _ _ _).mono ?_; rintro e w' ⟨rfl, rfl⟩)
  go_ret
  exact ⟨rfl, rfl⟩
set_option maxHeartbeats 1000000 in
theorem mkOf_in (F : Fence) (n : Nat) (h : F.fn 43) (h53 : F.fn 53) (hro : F.round = none) (hn : 1 ≤ n) (p0 : Option Addr) (pid : Int) (w : World) :
    CallsIn F n Try.prog 43 #[.pointer p0, .int .i64 pid] w fun e w' => e = .returned (.func (.func 59) #[] #[.pointer (some ⟨w.heap.size + 1, 0, none⟩), .pointer (some ⟨w.heap.size + 1 + 1, 0, none⟩)]) ∧ w' = ((w.alloc (.cells #[.int .i64 pid] 2)).alloc (.cells #[.pointer p0] 24)).alloc (.cells #[.func (.func 55) #[] #[.pointer (some ⟨w.heap.size, 0, none⟩)]] 83) := by
  refine callsIn_of_wp Try.func43 rfl h ?_ hro
  simp only [Try.ntmps43, List.size_toArray, List.length_cons, List.length_nil, Nat.reduceAdd, Nat.reduceSub, Array.replicate_succ, Array.replicate_zero, List.push_toArray, List.append_toArray, List.nil_append, List.cons_append]
  gi_wp2_with (gi_at_call 53; refine (mkSome_in F (n - 1) h53 hro _ _ _ _).mono ?_; rintro e w' ⟨rfl, rfl⟩)
  go_ret
  exact ⟨by simp, rfl⟩

set_option maxRecDepth 100000 in
set_option maxHeartbeats 4000000 in
theorem of_in (F : Fence) (n : Nat) (hf : F.fn 21) (hmk : F.fn 43) (h53 : F.fn 53) (h59 : F.fn 59) (hro : F.round = none) (hn : 4 ≤ n) (w : World) (p0 : Option Addr) (pid : Int) (most : Nat) (h1m : 1 ≤ most) (hmm : most ≤ 1000000) (xs : List Bd) (hlen : xs.length ≤ 1000000)
    (hseq : ∀ W B Bp Bg Bi, Below w.heap.size w W → Boxed W Bp 2 (.int .i64 pid) → Boxed W Bg 24 (.pointer p0) → Boxed W Bi 83 (.func (.func 55) #[] #[.pointer (some ⟨Bp, 0, none⟩)]) → B < W.heap.size → (∀ g, (g = Bp ∨ g = Bg ∨ g = Bi) → g ≠ B) → (∀ k, ¬ OwnedAt W B 27 k) →
      SeqStopsK F (n - 1) Try.prog 59 #[.pointer (some ⟨Bg, 0, none⟩), .pointer (some ⟨Bi, 0, none⟩)] (fun x : Bd => #[vB x]) (KpB w.heap.size B 27) (fun ys => ys = xs) (fun pre => pre <+: xs) xs.length W) :
    CallsIn F n Try.prog 21 #[.pointer p0, .int .i64 pid, .int .i64 most] w (CollPost w (cutAt most xs)) := by
  have h1 : 1 ≤ n := by omega
  have HSEQ := Kp.mk hseq
  clear hseq
  have hfe : ∀ (w : World) (b c : Nat), (binOp BinOp.eql 69 (.func (.func 59) #[] #[.pointer (some ⟨b, 0, none⟩), .pointer (some ⟨c, 0, none⟩)]) .nilFunc).run Try.prog w = .ok (.bool false) w := fun _ _ _ => by kernel_rfl
  refine callsIn_of_wp_marks Try.func21 rfl hf ?_ hro
  simp only [Try.ntmps21, List.size_toArray, List.length_cons, List.length_nil, Nat.reduceAdd, Nat.reduceSub, Array.replicate_succ, Array.replicate_zero, List.push_toArray, List.append_toArray, List.nil_append, List.cons_append]
  gi_wp2_with (gi_at_call 43; refine (mkOf_in F (n - 1) hmk h53 hro (by omega) _ _ _).mono ?_; rintro e w' ⟨rfl, rfl⟩)
  obtain ⟨W0, hW0⟩ : ∃ W0, W0 = allocN w [.cells #[.int .i64 most] 3, .cells #[.slice none 0 0] 27, .cells #[.int .i64 pid] 2, .cells #[.pointer p0] 24, .cells #[.func (.func 55) #[] #[.pointer (some ⟨w.heap.size + 1 + 1, 0, none⟩)]] 83] := ⟨_, rfl⟩
  have hsz : W0.heap.size = w.heap.size + 5 := by rw [hW0]; exact allocN_size _ _
  have hB0 : Below w.heap.size w W0 := by rw [hW0]; exact allocN_below _ _
  have bM : Boxed W0 w.heap.size 3 (.int .i64 most) := by rw [hW0]; exact allocN_at _ _ 0 _ rfl
  have bL : Boxed W0 (w.heap.size + 1) 27 (.slice none 0 0) := by rw [hW0]; exact allocN_at _ _ 1 _ rfl
  have bP : Boxed W0 (w.heap.size + 1 + 1) 2 (.int .i64 pid) := by rw [hW0]; exact allocN_at _ _ 2 _ rfl
  have bG : Boxed W0 (w.heap.size + 1 + 1 + 1) 24 (.pointer p0) := by rw [hW0]; exact allocN_at _ _ 3 _ rfl
  have bI : Boxed W0 (w.heap.size + 1 + 1 + 1 + 1) 83 (.func (.func 55) #[] #[.pointer (some ⟨w.heap.size + 1 + 1, 0, none⟩)]) := by rw [hW0]; exact allocN_at _ _ 4 _ rfl
  have hW1 : (((((w.alloc (.cells #[.int .i64 most] 3)).alloc (.cells #[.slice none 0 0] 27)).alloc (.cells #[.int .i64 pid] 2)).alloc (.cells #[.pointer p0] 24)).alloc (.cells #[.func (.func 55) #[] #[.pointer (some ⟨w.heap.size + 1 + 1, 0, none⟩)]] 83)) = W0 := by rw [hW0]; rfl
  rw [hW1]
  have hno : ∀ k, ¬ OwnedAt W0 (w.heap.size + 1) 27 k := by
    rintro k ⟨v, hv, hk⟩
    have e := hv.cell.symm.trans bL.cell
    cases e
    cases hk
  clear hW1 hW0
  refine wpIn_rangeFunc_ownH hro h1 (gf := 59) (lb := #[.pointer (some ⟨w.heap.size + 1 + 1 + 1, 0, none⟩), .pointer (some ⟨w.heap.size + 1 + 1 + 1 + 1, 0, none⟩)]) rfl h59 (enters_of Try.func59 (by kernel_rfl) rfl)
    (HSEQ.out W0 (w.heap.size + 1) (w.heap.size + 1 + 1) (w.heap.size + 1 + 1 + 1) (w.heap.size + 1 + 1 + 1 + 1) hB0 bP bG bI (by omega) (by omega) hno) KpB.trans (KpB.turn (by omega) (by omega)) (Below.refl _ _) (fun _ => rfl)
    (fun pre W => Coll w 48 eBd 27 (w.heap.size + 1) id pre W ∧ Boxed W w.heap.size 3 (.int .i64 most) ∧ pre.length < most)
    (fun c pre W => Coll w 48 eBd 27 (w.heap.size + 1) id pre W ∧ (c = .exit 0 ∧ pre.length = most))
    (OwnFrom.and (coll_own (by omega)) (OwnFrom.and boxed_from (ownFrom_pure _ _)))
    (fun c => OwnFrom.and (coll_own (by omega)) (ownFrom_pure _ _))
    ⟨⟨⟨_, bL, Own.nil _ _ _, Fresh.nil _ _ _⟩, hB0⟩, bM, by simp; omega⟩
    (fun x a' V => ∃ Bx, V.heap[Bx]? = some (.cells #[.int .i64 x.a, .int .i64 x.b, .int .i64 x.r] 48 (0, 0)) ∧ a' = { tmps := #[.pointer p0, .int .i64 pid, .int .i64 most, undef, undef, .pointer (some ⟨w.heap.size, 0, none⟩), .slice none 0 0, .pointer (some ⟨w.heap.size + 1, 0, none⟩), .func (.func 59) #[] #[.pointer (some ⟨w.heap.size + 1 + 1 + 1, 0, none⟩), .pointer (some ⟨w.heap.size + 1 + 1 + 1 + 1, 0, none⟩)], .pointer (some ⟨Bx, 0, none⟩), .pointer p0, .int .i64 pid, .func (.func 59) #[] #[.pointer (some ⟨w.heap.size + 1 + 1 + 1, 0, none⟩), .pointer (some ⟨w.heap.size + 1 + 1 + 1 + 1, 0, none⟩)], .func (.func 59) #[] #[.pointer (some ⟨w.heap.size + 1 + 1 + 1, 0, none⟩), .pointer (some ⟨w.heap.size + 1 + 1 + 1 + 1, 0, none⟩)], .bool false, .func (.func 59) #[] #[.pointer (some ⟨w.heap.size + 1 + 1 + 1, 0, none⟩), .pointer (some ⟨w.heap.size + 1 + 1 + 1 + 1, 0, none⟩)], .agg #[.int .i64 x.a, .int .i64 x.b, .int .i64 x.r], undef, undef, undef, undef, undef, undef, undef, undef, undef], defers := [] })
    (fun x a' s X1 X2 row hs hg hr => by
      obtain ⟨Bx, hb, ha⟩ := hs
      refine ⟨Bx, (hg.block _ (lt_of_block hb) (fun e => ?_)).trans hb, ha⟩
      obtain ⟨_, o, ho, hc⟩ := hr Bx e.symm
      rw [hb] at ho; cases ho; cases hc)
    ?assign ?body ?done ?stop
  case assign =>
    rintro l' pre x V K ⟨⟨⟨v, hv, ho, hf⟩, hbel⟩, hm, hl⟩ hK
    have hvl := hv.lt
    have hn0 : w.heap.size ≤ V.heap.size := hbel.size
    have hb1 : Below V.heap.size V (V.alloc (.cells #[.int .i64 x.a, .int .i64 x.b, .int .i64 x.r] 48)) := (Below.refl _ _).alloc (Nat.le_refl _) _
    have HKK := Kp.mk (hK { tmps := #[.pointer p0, .int .i64 pid, .int .i64 most, undef, undef, .pointer (some ⟨w.heap.size, 0, none⟩), .slice none 0 0, .pointer (some ⟨w.heap.size + 1, 0, none⟩), .func (.func 59) #[] #[.pointer (some ⟨w.heap.size + 1 + 1 + 1, 0, none⟩), .pointer (some ⟨w.heap.size + 1 + 1 + 1 + 1, 0, none⟩)], .pointer (some ⟨V.heap.size, 0, none⟩), .pointer p0, .int .i64 pid, .func (.func 59) #[] #[.pointer (some ⟨w.heap.size + 1 + 1 + 1, 0, none⟩), .pointer (some ⟨w.heap.size + 1 + 1 + 1 + 1, 0, none⟩)], .func (.func 59) #[] #[.pointer (some ⟨w.heap.size + 1 + 1 + 1, 0, none⟩), .pointer (some ⟨w.heap.size + 1 + 1 + 1 + 1, 0, none⟩)], .bool false, .func (.func 59) #[] #[.pointer (some ⟨w.heap.size + 1 + 1 + 1, 0, none⟩), .pointer (some ⟨w.heap.size + 1 + 1 + 1 + 1, 0, none⟩)], .agg #[.int .i64 x.a, .int .i64 x.b, .int .i64 x.r], undef, undef, undef, undef, undef, undef, undef, undef, undef], defers := [] } _ ((KeepsOthers.alloc V (.cells #[.int .i64 x.a, .int .i64 x.b, .int .i64 x.r] 48)).from _) (KpB.new hb1 hvl hn0) ⟨⟨⟨v, Boxed.alloc hv _, ho.alloc _, hf⟩, hbel.trans (hb1.mono hn0)⟩, Boxed.alloc hm _, hl⟩ ⟨V.heap.size, blk_new V _, rfl⟩)
    clear hK hv ho hf hbel hm hl
    unfold vB
    gi_wp2
    exact HKK.out
  case body =>
    rintro l' pre x a' W hl' hr0 ⟨⟨⟨v, hv, ho, hf⟩, hbel⟩, hm, hg⟩ ⟨Bx, hbx, rfl⟩ hlt
    clear bM bL bP bG bI hB0 hno hfe
    obtain ⟨A, c, hvs, _⟩ := ho.shape
    subst hvs
    have hc := hv.cell
    have hb0' := blk_c hbx 0
    have hb1' := blk_c hbx 1
    have hb2' := blk_c hbx 2
    have hlt' : pre.length < 1000000 := by omega
    have HV := Kp.mk hv
    have HO := Kp.mk ho
    have HF := Kp.mk hf
    have HB := Kp.mk hbel
    have HM := Kp.mk hm
    have ho' : Own W 48 eBd (.slice A pre.length c) pre := ho
    have hw : w.heap.size ≤ W.heap.size := hbel.size
    clear hv ho hf hbel hm hr0 hbx
    have hwne : w.heap.size ≠ w.heap.size + 1 := by omega
    by_cases heb : pre.length + 1 < most
    · have hd : decide ((pre.length : Int) + 1 ≥ most) = false := by simp; omega
      gi_wp2_with (gi_at_builtin; refine app1_evIn T27 x rfl _ _ rfl ho' rfl rfl rfl (by simp) rfl (by omega) (by omega) ?_; intro A' n' c' w1 a0 a1 a2 a3; obtain ⟨k1, k2, k3, k4, k5, k6, k7⟩ := coll_app HV.out (by decide) HO.out HF.out HB.out (by omega) a1 a2 a3; have hc1 := k1.cell; have hf1 := k1.frozen; have hm1 := (a2.at HM.out (HO.out.ne HM.out (by decide))); have hmc : w1.cell? ⟨w.heap.size, 0, none⟩ = some (.int .i64 most) := Boxed.cell hm1; obtain rfl : n' = pre.length + 1 := a0.out)
      refine ⟨k5.from _, KpB.app HV.out k2 k7 a3 k6, ⟨⟨_, k2, k3, k4⟩, HB.out.trans k6⟩, (k7.at HM.out (fun h => ?_)), by simp; omega⟩
      rcases h with h | h
      · omega
      · exact HO.out.ne HM.out (by decide) h
    · have hd : decide ((pre.length : Int) + 1 ≥ most) = true := by simp; omega
      gi_wp2_with (gi_at_builtin; refine app1_evIn T27 x rfl _ _ rfl ho' rfl rfl rfl (by simp) rfl (by omega) (by omega) ?_; intro A' n' c' w1 a0 a1 a2 a3; obtain ⟨k1, k2, k3, k4, k5, k6, k7⟩ := coll_app HV.out (by decide) HO.out HF.out HB.out (by omega) a1 a2 a3; have hc1 := k1.cell; have hf1 := k1.frozen; have hm1 := (a2.at HM.out (HO.out.ne HM.out (by decide))); have hmc : w1.cell? ⟨w.heap.size, 0, none⟩ = some (.int .i64 most) := Boxed.cell hm1; obtain rfl : n' = pre.length + 1 := a0.out)
      exact ⟨k5.from _, ⟨⟨_, k2, k3, k4⟩, HB.out.trans k6⟩, rfl, by simp; omega⟩
  case done =>
    rintro D ys W hD rfl ⟨⟨⟨v, hv, ho, hf⟩, hbel⟩, hm, hg⟩ hK
    have hc := hv.cell
    have HO := Kp.mk ho
    have HK := Kp.mk hK
    gi_wp2
    refine ⟨by simp, .inl ⟨_, _, rfl, run_takeDeferred HK.out, ?_⟩⟩
    refine ⟨_, results_tmp rfl _ _ _, v, rfl, ?_, hf, hbel.trans (belowK_b (w := w) (Nat.le_refl _) W D _ _ (by omega) HK.out rfl rfl)⟩
    have e : cutAt most ys = ys := by unfold cutAt; rw [if_neg (by omega)]
    rw [e]
    exact HO.out.putObj _ HK.out rfl
  case stop =>
    rintro D c pre W hD hSp ⟨⟨⟨v, hv, ho, hf⟩, hbel⟩, rfl, hlen2⟩ hK
    have hc := hv.cell
    have HO := Kp.mk ho
    have HK := Kp.mk hK
    gi_wp2
    refine ⟨by simp, .inl ⟨_, _, rfl, run_takeDeferred HK.out, ?_⟩⟩
    refine ⟨_, results_tmp rfl _ _ _, v, rfl, ?_, hf, hbel.trans (belowK_b (w := w) (Nat.le_refl _) W D _ _ (by omega) HK.out rfl rfl)⟩
    have hle := hSp.length_le
    have e : cutAt most xs = pre := by
      unfold cutAt
      rw [if_pos (by omega), ← hlen2]
      exact (List.prefix_iff_eq_take.1 hSp).symm
    rw [e]
    exact HO.out.putObj _ HK.out rfl

set_option maxRecDepth 100000 in
set_option maxHeartbeats 4000000 in
theorem every_in (F : Fence) (n : Nat) (hf : F.fn 15) (hmk : F.fn 40) (h53 : F.fn 53) (h59 : F.fn 59) (hro : F.round = none) (hn : 4 ≤ n) (w : World) (p0 : Option Addr) (most : Nat) (h1m : 1 ≤ most) (hmm : most ≤ 1000000) (xs : List Bd) (hlen : xs.length ≤ 1000000)
    (hseq : ∀ W B Bg Bi, Below w.heap.size w W → Boxed W Bg 24 (.pointer p0) → Boxed W Bi 83 (.func (.func 54) #[] #[]) → B < W.heap.size → (∀ g, (g = Bg ∨ g = Bi) → g ≠ B) → (∀ k, ¬ OwnedAt W B 27 k) →
      SeqStopsK F (n - 1) Try.prog 59 #[.pointer (some ⟨Bg, 0, none⟩), .pointer (some ⟨Bi, 0, none⟩)] (fun x : Bd => #[vB x]) (KpB w.heap.size B 27) (fun ys => ys = xs) (fun pre => pre <+: xs) xs.length W) :
    CallsIn F n Try.prog 15 #[.pointer p0, .int .i64 most] w (CollPost w (cutAt most xs)) := by
  have h1 : 1 ≤ n := by omega
  have HSEQ := Kp.mk hseq
  clear hseq
  have hfe : ∀ (w : World) (b c : Nat), (binOp BinOp.eql 69 (.func (.func 59) #[] #[.pointer (some ⟨b, 0, none⟩), .pointer (some ⟨c, 0, none⟩)]) .nilFunc).run Try.prog w = .ok (.bool false) w := fun _ _ _ => by kernel_rfl
  refine callsIn_of_wp_marks Try.func15 rfl hf ?_ hro
  simp only [Try.ntmps15, List.size_toArray, List.length_cons, List.length_nil, Nat.reduceAdd, Nat.reduceSub, Array.replicate_succ, Array.replicate_zero, List.push_toArray, List.append_toArray, List.nil_append, List.cons_append]
  gi_wp2_with (gi_at_call 40; refine (mkAll_in F (n - 1) hmk h53 hro (by omega) _ _).mono ?_; rintro e w' ⟨rfl, rfl⟩)
  obtain ⟨W0, hW0⟩ : ∃ W0, W0 = allocN w [.cells #[.int .i64 most] 3, .cells #[.slice none 0 0] 27, .cells #[.pointer p0] 24, .cells #[.func (.func 54) #[] #[]] 83] := ⟨_, rfl⟩
  have hsz : W0.heap.size = w.heap.size + 4 := by rw [hW0]; exact allocN_size _ _
  have hB0 : Below w.heap.size w W0 := by rw [hW0]; exact allocN_below _ _
  have bM : Boxed W0 w.heap.size 3 (.int .i64 most) := by rw [hW0]; exact allocN_at _ _ 0 _ rfl
  have bL : Boxed W0 (w.heap.size + 1) 27 (.slice none 0 0) := by rw [hW0]; exact allocN_at _ _ 1 _ rfl
  have bG : Boxed W0 (w.heap.size + 1 + 1) 24 (.pointer p0) := by rw [hW0]; exact allocN_at _ _ 2 _ rfl
  have bI : Boxed W0 (w.heap.size + 1 + 1 + 1) 83 (.func (.func 54) #[] #[]) := by rw [hW0]; exact allocN_at _ _ 3 _ rfl
  have hW1 : ((((w.alloc (.cells #[.int .i64 most] 3)).alloc (.cells #[.slice none 0 0] 27)).alloc (.cells #[.pointer p0] 24)).alloc (.cells #[.func (.func 54) #[] #[]] 83)) = W0 := by rw [hW0]; rfl
  rw [hW1]
  have hno : ∀ k, ¬ OwnedAt W0 (w.heap.size + 1) 27 k := by
    rintro k ⟨v, hv, hk⟩
    have e := hv.cell.symm.trans bL.cell
    cases e
    cases hk
  clear hW1 hW0
  refine wpIn_rangeFunc_ownH hro h1 (gf := 59) (lb := #[.pointer (some ⟨w.heap.size + 1 + 1, 0, none⟩), .pointer (some ⟨w.heap.size + 1 + 1 + 1, 0, none⟩)]) rfl h59 (enters_of Try.func59 (by kernel_rfl) rfl)
    (HSEQ.out W0 (w.heap.size + 1) (w.heap.size + 1 + 1) (w.heap.size + 1 + 1 + 1) hB0 bG bI (by omega) (by omega) hno) KpB.trans (KpB.turn (by omega) (by omega)) (Below.refl _ _) (fun _ => rfl)
    (fun pre W => Coll w 48 eBd 27 (w.heap.size + 1) id pre W ∧ Boxed W w.heap.size 3 (.int .i64 most) ∧ pre.length < most)
    (fun c pre W => Coll w 48 eBd 27 (w.heap.size + 1) id pre W ∧ (c = .exit 0 ∧ pre.length = most))
    (OwnFrom.and (coll_own (by omega)) (OwnFrom.and boxed_from (ownFrom_pure _ _)))
    (fun c => OwnFrom.and (coll_own (by omega)) (ownFrom_pure _ _))
    ⟨⟨⟨_, bL, Own.nil _ _ _, Fresh.nil _ _ _⟩, hB0⟩, bM, by simp; omega⟩
    (fun x a' V => ∃ Bx, V.heap[Bx]? = some (.cells #[.int .i64 x.a, .int .i64 x.b, .int .i64 x.r] 48 (0, 0)) ∧ a' = { tmps := #[.pointer p0, .int .i64 most, undef, .pointer (some ⟨w.heap.size, 0, none⟩), .slice none 0 0, .pointer (some ⟨w.heap.size + 1, 0, none⟩), .func (.func 59) #[] #[.pointer (some ⟨w.heap.size + 1 + 1, 0, none⟩), .pointer (some ⟨w.heap.size + 1 + 1 + 1, 0, none⟩)], .pointer (some ⟨Bx, 0, none⟩), .pointer p0, .func (.func 59) #[] #[.pointer (some ⟨w.heap.size + 1 + 1, 0, none⟩), .pointer (some ⟨w.heap.size + 1 + 1 + 1, 0, none⟩)], .func (.func 59) #[] #[.pointer (some ⟨w.heap.size + 1 + 1, 0, none⟩), .pointer (some ⟨w.heap.size + 1 + 1 + 1, 0, none⟩)], .bool false, .func (.func 59) #[] #[.pointer (some ⟨w.heap.size + 1 + 1, 0, none⟩), .pointer (some ⟨w.heap.size + 1 + 1 + 1, 0, none⟩)], .agg #[.int .i64 x.a, .int .i64 x.b, .int .i64 x.r], undef, undef, undef, undef, undef, undef, undef, undef, undef], defers := [] })
    (fun x a' s X1 X2 row hs hg hr => by
      obtain ⟨Bx, hb, ha⟩ := hs
      refine ⟨Bx, (hg.block _ (lt_of_block hb) (fun e => ?_)).trans hb, ha⟩
      obtain ⟨_, o, ho, hc⟩ := hr Bx e.symm
      rw [hb] at ho; cases ho; cases hc)
    ?assign ?body ?done ?stop
  case assign =>
    rintro l' pre x V K ⟨⟨⟨v, hv, ho, hf⟩, hbel⟩, hm, hl⟩ hK
    have hvl := hv.lt
    have hn0 : w.heap.size ≤ V.heap.size := hbel.size
    have hb1 : Below V.heap.size V (V.alloc (.cells #[.int .i64 x.a, .int .i64 x.b, .int .i64 x.r] 48)) := (Below.refl _ _).alloc (Nat.le_refl _) _
    have HKK := Kp.mk (hK { tmps := #[.pointer p0, .int .i64 most, undef, .pointer (some ⟨w.heap.size, 0, none⟩), .slice none 0 0, .pointer (some ⟨w.heap.size + 1, 0, none⟩), .func (.func 59) #[] #[.pointer (some ⟨w.heap.size + 1 + 1, 0, none⟩), .pointer (some ⟨w.heap.size + 1 + 1 + 1, 0, none⟩)], .pointer (some ⟨V.heap.size, 0, none⟩), .pointer p0, .func (.func 59) #[] #[.pointer (some ⟨w.heap.size + 1 + 1, 0, none⟩), .pointer (some ⟨w.heap.size + 1 + 1 + 1, 0, none⟩)], .func (.func 59) #[] #[.pointer (some ⟨w.heap.size + 1 + 1, 0, none⟩), .pointer (some ⟨w.heap.size + 1 + 1 + 1, 0, none⟩)], .bool false, .func (.func 59) #[] #[.pointer (some ⟨w.heap.size + 1 + 1, 0, none⟩), .pointer (some ⟨w.heap.size + 1 + 1 + 1, 0, none⟩)], .agg #[.int .i64 x.a, .int .i64 x.b, .int .i64 x.r], undef, undef, undef, undef, undef, undef, undef, undef, undef], defers := [] } _ ((KeepsOthers.alloc V (.cells #[.int .i64 x.a, .int .i64 x.b, .int .i64 x.r] 48)).from _) (KpB.new hb1 hvl hn0) ⟨⟨⟨v, Boxed.alloc hv _, ho.alloc _, hf⟩, hbel.trans (hb1.mono hn0)⟩, Boxed.alloc hm _, hl⟩ ⟨V.heap.size, blk_new V _, rfl⟩)
    clear hK hv ho hf hbel hm hl
    unfold vB
    gi_wp2
    exact HKK.out
  case body =>
    rintro l' pre x a' W hl' hr0 ⟨⟨⟨v, hv, ho, hf⟩, hbel⟩, hm, hg⟩ ⟨Bx, hbx, rfl⟩ hlt
    clear bM bL bG bI hB0 hno hfe
    obtain ⟨A, c, hvs, _⟩ := ho.shape
    subst hvs
    have hc := hv.cell
    have hb0' := blk_c hbx 0
    have hb1' := blk_c hbx 1
    have hb2' := blk_c hbx 2
    have hlt' : pre.length < 1000000 := by omega
    have HV := Kp.mk hv
    have HO := Kp.mk ho
    have HF := Kp.mk hf
    have HB := Kp.mk hbel
    have HM := Kp.mk hm
    have ho' : Own W 48 eBd (.slice A pre.length c) pre := ho
    have hw : w.heap.size ≤ W.heap.size := hbel.size
    clear hv ho hf hbel hm hr0 hbx
    have hwne : w.heap.size ≠ w.heap.size + 1 := by omega
    by_cases heb : pre.length + 1 < most
    · have hd : decide ((pre.length : Int) + 1 ≥ most) = false := by simp; omega
      gi_wp2_with (gi_at_builtin; refine app1_evIn T27 x rfl _ _ rfl ho' rfl rfl rfl (by simp) rfl (by omega) (by omega) ?_; intro A' n' c' w1 a0 a1 a2 a3; obtain ⟨k1, k2, k3, k4, k5, k6, k7⟩ := coll_app HV.out (by decide) HO.out HF.out HB.out (by omega) a1 a2 a3; have hc1 := k1.cell; have hf1 := k1.frozen; have hm1 := (a2.at HM.out (HO.out.ne HM.out (by decide))); have hmc : w1.cell? ⟨w.heap.size, 0, none⟩ = some (.int .i64 most) := Boxed.cell hm1; obtain rfl : n' = pre.length + 1 := a0.out)
      refine ⟨k5.from _, KpB.app HV.out k2 k7 a3 k6, ⟨⟨_, k2, k3, k4⟩, HB.out.trans k6⟩, (k7.at HM.out (fun h => ?_)), by simp; omega⟩
      rcases h with h | h
      · omega
      · exact HO.out.ne HM.out (by decide) h
    · have hd : decide ((pre.length : Int) + 1 ≥ most) = true := by simp; omega
      gi_wp2_with (gi_at_builtin; refine app1_evIn T27 x rfl _ _ rfl ho' rfl rfl rfl (by simp) rfl (by omega) (by omega) ?_; intro A' n' c' w1 a0 a1 a2 a3; obtain ⟨k1, k2, k3, k4, k5, k6, k7⟩ := coll_app HV.out (by decide) HO.out HF.out HB.out (by omega) a1 a2 a3; have hc1 := k1.cell; have hf1 := k1.frozen; have hm1 := (a2.at HM.out (HO.out.ne HM.out (by decide))); have hmc : w1.cell? ⟨w.heap.size, 0, none⟩ = some (.int .i64 most) := Boxed.cell hm1; obtain rfl : n' = pre.length + 1 := a0.out)
      exact ⟨k5.from _, ⟨⟨_, k2, k3, k4⟩, HB.out.trans k6⟩, rfl, by simp; omega⟩
  case done =>
    rintro D ys W hD rfl ⟨⟨⟨v, hv, ho, hf⟩, hbel⟩, hm, hg⟩ hK
    have hc := hv.cell
    have HO := Kp.mk ho
    have HK := Kp.mk hK
    gi_wp2
    refine ⟨by simp, .inl ⟨_, _, rfl, run_takeDeferred HK.out, ?_⟩⟩
    refine ⟨_, results_tmp rfl _ _ _, v, rfl, ?_, hf, hbel.trans (belowK_b (w := w) (Nat.le_refl _) W D _ _ (by omega) HK.out rfl rfl)⟩
    have e : cutAt most ys = ys := by unfold cutAt; rw [if_neg (by omega)]
    rw [e]
    exact HO.out.putObj _ HK.out rfl
  case stop =>
    rintro D c pre W hD hSp ⟨⟨⟨v, hv, ho, hf⟩, hbel⟩, rfl, hlen2⟩ hK
    have hc := hv.cell
    have HO := Kp.mk ho
    have HK := Kp.mk hK
    gi_wp2
    refine ⟨by simp, .inl ⟨_, _, rfl, run_takeDeferred HK.out, ?_⟩⟩
    refine ⟨_, results_tmp rfl _ _ _, v, rfl, ?_, hf, hbel.trans (belowK_b (w := w) (Nat.le_refl _) W D _ _ (by omega) HK.out rfl rfl)⟩
    have hle := hSp.length_le
    have e : cutAt most xs = pre := by
      unfold cutAt
      rw [if_pos (by omega), ← hlen2]
      exact (List.prefix_iff_eq_take.1 hSp).symm
    rw [e]
    exact HO.out.putObj _ HK.out rfl
end Go.Proofs.Ytlbbheopoflmjaa
