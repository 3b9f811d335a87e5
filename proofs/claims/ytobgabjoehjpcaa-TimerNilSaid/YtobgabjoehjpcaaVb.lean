/- What All of package timer's function tells, round by round: the timers in their order; for at most a million of them. -/
import Derived.Test.YtobgabjoehjpcaaVa
namespace Go.Proofs.Ytobgabjoehjpcaa
open Go.RowKit Go.Shelf
attribute [local go_sem] Oper.semAt_some

theorem T55 : SlT Try.prog 55 60 eEnt 24 := SlT.mk' (k := 3) (z := .agg #[.int .i64 0, .int .i64 0, .int .i64 0]) Try.underlying55 (by kernel_rfl) rfl rfl
def prE (e : Ent) : Int × Int := (e.ref, e.dl)
def encP (x : Int × Int) : Array Value := #[.int .i64 x.1, .int .i64 x.2]
theorem grown_below {W W' : World} (h : Below W.heap.size W W') : W.grownBy W' none := ⟨h.os, h.tape, h.output, h.size, fun k hk _ => h.block k hk⟩
def SortC (F : Fence) (n : Nat) : Prop := ∀ (w : World) (g m c : Nat) (l : List Ent), Own w 60 eEnt (.slice (some ⟨g, 0, none⟩) m c) l → m = l.length → m ≤ 1000000 →
    CallsIn F n Try.prog 42 #[.slice (some ⟨g, 0, none⟩) m c, .func (.func 43) #[] #[]] w fun e w' => e = .returned (.tuple #[]) ∧ ∃ l', l'.Perm l ∧ l'.Pairwise le' ∧ Own w' 60 eEnt (.slice (some ⟨g, 0, none⟩) m c) l' ∧ Chg (fun x => x = g) w w'
theorem sortC_wide (n : Nat) : SortC Fence.wide n := fun w g m c l h hm hb => callsIn_wide.2 (sort_any w g m c l h hm hb)
theorem RoundIn.anyDepth' {F : Fence} (hd : F.depth = none) {m : Nat} (m' : Nat) {P : Program} {l : Nat} {f : FuncId} {tmps : Array Value} {assign body : Code} {w : World} {R : Ending → World → Prop} (h : RoundIn F m P l f tmps assign body w R) : RoundIn F m' P l f tmps assign body w R :=
  ⟨h.1, fun c cs _ => h.2 c cs (by simp [Fence.room, hd])⟩

set_option maxRecDepth 100000 in
set_option maxHeartbeats 4000000 in
theorem all1_in (F : Fence) (n : Nat) (h41 : F.fn 41) (h42 : F.fn 42) (h44 : F.fn 44) (h50 : F.fn 50) (hro : F.round = none) (hd : F.depth = none) (hn : 6 ≤ n) (hsort : SortC F (n - 1))
    (Y : Nat → Prop) (W : World) (l Bw p : Nat) (qv : Value) (lq : List Ent) (tn : Int) (R : List (Int × Int)) (hlen : lq.length ≤ 1000000)
    (hY0 : ∀ k, Y k → k < W.heap.size) (hl : l < W.heap.size) (hR : ∀ S : List Ent, S.Perm lq → S.Pairwise le' → S.map prE = R)
    (hBw : W.cell? ⟨Bw, 0, none⟩ = some (.pointer (some ⟨p, 0, none⟩))) (hw : IsWh W p qv lq tn) (J Jx : List (Int × Int) → World → Prop) (hJ : OwnFrom W.heap.size J) (hJx : OwnFrom W.heap.size Jx)
    (hYld : ∀ pre x W1, J pre W1 → pre.length < R.length → YieldAt F (n - 1) Try.prog l (encP x) W1 fun e W' =>
      (e = .returned (.bool true) ∧ J (pre ++ [x]) W' ∧ Chg (fun k => Y k ∨ k = l) W1 W') ∨ (e = .returned (.bool false) ∧ Jx (pre ++ [x]) W' ∧ Chg (fun k => Y k ∨ k = l) W1 W'))
    (h0 : J [] W) :
    CallsIn F n Try.prog 41 #[.func (.yield l) #[] #[], .pointer (some ⟨Bw, 0, none⟩)] W fun e W' => (∃ v, e = .returned v) ∧ (J R W' ∨ ∃ pre, pre <+: R ∧ Jx pre W') := by
  obtain ⟨A, c, hqs, hc1, hc2, hA0, hA1⟩ := hw.own.shape
  obtain ⟨m, hm⟩ : ∃ m, m = lq.length := ⟨_, rfl⟩
  rw [← hm] at hqs hlen
  subst hqs
  have hbs := World.block_lt_of_cell? W _ hBw
  have hps := hw.lt
  obtain ⟨V0, hV0⟩ : ∃ V0, V0 = W.alloc (.cells #[.func (.yield l) #[] #[]] 54) := ⟨_, rfl⟩
  have bY : Boxed V0 W.heap.size 54 (.func (.yield l) #[] #[]) := by rw [hV0]; exact Boxed.new W 54 _
  have hb0 : Below W.heap.size W V0 := by rw [hV0]; exact (Below.refl _ W).alloc (Nat.le_refl _) _
  have hw0 : IsWh V0 p (.slice A m c) lq tn := hw.frame (Chg.of_below hb0 NoF) (fun _ _ h => h)
  have hV0s : V0.heap.size = W.heap.size + 1 := by rw [hV0]; simp
  have hBw0 : V0.cell? ⟨Bw, 0, none⟩ = some (.pointer (some ⟨p, 0, none⟩)) := (hb0.cell hbs).trans hBw
  have hq0 := hw0.c0
  have HM := Kp.mk hm
  have HW := Kp.mk hw0
  have HY := Kp.mk hYld
  have HY0 := Kp.mk hY0
  have HR := Kp.mk hR
  have HJ := Kp.mk hJ
  have HJx := Kp.mk hJx
  have H0 := Kp.mk h0
  have HB0 := Kp.mk hb0
  have HSo := Kp.mk hsort
  have HBY := Kp.mk bY
  have HV0 := Kp.mk hV0s
  clear hYld hY0 hR hJ hJx h0 hb0 hsort hw hw0 hm bY hV0s hA0 hA1 hc1 hc2
  refine callsIn_of_wp_marks Try.func41 rfl h41 ?_ hro
  simp only [Try.ntmps41, List.size_toArray, List.length_cons, List.length_nil, Nat.reduceAdd, Nat.reduceSub, Array.replicate_succ, Array.replicate_zero, List.push_toArray, List.append_toArray, List.nil_append, List.cons_append]
  have h1 : 1 ≤ n := by omega
  have hBwA := hBw0
  have hqA := hq0
  rw [hV0] at hBwA hqA
  gi_wp2_with (first
    | (refine make_evIn T55 rfl _ _ rfl m rfl rfl (by omega) (by simp [maxLen]; omega) ?_; rw [← hV0]; intro cur V1 a1 a2 a3; rw [HV0.out] at a1; have hBw1 := (a3.cell (World.block_lt_of_cell? V0 _ hBw0)).trans hBw0; have hq1 := (a3.cell (World.block_lt_of_cell? V0 _ hq0)).trans hq0; have A3 := Kp.mk a3; clear a3; clear hBwA hqA)
    | (refine copy_evIn T55 rfl _ _ rfl rfl rfl HM.out ((HW.out.own.src rfl).below A3.out) a1.out a2.out (by simp [maxLen]; omega) ?_; intro V2 b1 b2; have B1 := Kp.mk b1; have B2 := Kp.mk b2; clear b1 b2)
    | (gi_at_call 42; refine (HSo.out _ _ _ _ _ B1.out HM.out hlen).mono ?_; rintro e V3 ⟨rfl, L, c1, c2, c3, c4⟩; have C1 := Kp.mk c1; have C2 := Kp.mk c2; have C3 := Kp.mk c3; have C4 := Kp.mk c4; clear c1 c2 c3 c4)
    | (gi_at_call 44; refine (values_in F (n - 1) h44 hro _ _ _ _).mono ?_; rintro e V4 ⟨rfl, hV4⟩))
  rw [← hV4]
  have hmL : m = L.length := by rw [C1.out.length_eq]; exact HM.out
  have hRL : L.map prE = R := HR.out L C1.out C2.out
  have g0 : Below W.heap.size W V1 := bstep HB0.out HB0.out.size A3.out
  have g1 : Below W.heap.size W V2 := chg_below g0 B2.out (fun g hg => by omega) g0.size
  have g2 : Below W.heap.size W V3 := chg_below g1 C4.out (fun g hg => by omega) g1.size
  have g3 : Below W.heap.size W V4 := by rw [hV4]; exact g2.alloc g2.size _
  have y3 : Boxed V3 W.heap.size 54 (.func (.yield l) #[] #[]) := C4.out.at (B2.out.at ((A3.out.block _ (lt_of_block HBY.out)).trans HBY.out) (by omega)) (by omega)
  have y4 : Boxed V4 W.heap.size 54 (.func (.yield l) #[] #[]) := by rw [hV4]; exact Boxed.alloc y3 _
  have s4 : Boxed V4 V3.heap.size 55 (.slice (some ⟨W.heap.size + 1, 0, none⟩) m m) := by rw [hV4]; exact Boxed.new V3 55 _
  have o4 : Own V4 60 eEnt (.slice (some ⟨W.heap.size + 1, 0, none⟩) m m) L := by rw [hV4]; exact C3.out.alloc _
  have j4 : J [] V4 := HJ.out [] W V4 none H0.out (grown_below g3) (fun r e => by cases e)
  have hXg : ¬ (Y (W.heap.size + 1) ∨ W.heap.size + 1 = l) := by
    rintro (h | h)
    · have := HY0.out _ h; omega
    · omega
  have hV4s : W.heap.size ≤ V4.heap.size := g3.size
  have hlow : ∀ k, (Y k ∨ k = l) → k < W.heap.size := by
    rintro k (h | h)
    · exact HY0.out _ h
    · omega
  have HLow := Kp.mk hlow
  have HML := Kp.mk hmL
  have HRL := Kp.mk hRL
  clear g0 g1 g2 g3 y3 hV4 hlow hRL hmL
  refine wpIn_rangeFunc_ownH hro h1 (gf := 50) (lb := #[.pointer (some ⟨V3.heap.size, 0, none⟩)]) rfl h50 (enters_of Try.func50 (by kernel_rfl) rfl)
    (val_stops F (n - 1) h50 hro (by omega) V4 V3.heap.size (W.heap.size + 1) m m L HML.out hlen (fun k => Y k ∨ k = l) hXg s4 o4) (fun h k => KpI.trans h k) (fun W' l' o o' _ ho hc _ => KpI.of_chg (putObj_chg W' l' o') (fun k hk => .inr ⟨o, hk ▸ ho, hc⟩)) (Below.refl _ _) (fun _ => rfl)
    (fun pre V => J (pre.map prE) V ∧ Boxed V W.heap.size 54 (.func (.yield l) #[] #[]))
    (fun cc pre V => cc = .ret ∧ Jx (pre.map prE) V)
    (OwnFrom.and (fun s X1 X2 row hs hg hr => HJ.out _ X1 X2 row hs hg (fun r e => ⟨by have := (hr r e).1; omega, (hr r e).2⟩)) boxed_from)
    (fun cc s X1 X2 row hs hg hr => ⟨hs.1, HJx.out _ X1 X2 row hs.2 hg (fun r e => ⟨by have := (hr r e).1; omega, (hr r e).2⟩)⟩)
    ⟨j4, y4⟩
    (fun x a' V => ∃ Bx, V.heap[Bx]? = some (.cells #[.int .i64 x.ref, .int .i64 x.dl, .int .i64 x.tn] 60 (0, 0)) ∧ a' = { tmps := #[.func (.yield l) #[] #[], .pointer (some ⟨Bw, 0, none⟩), .pointer (some ⟨W.heap.size, 0, none⟩), .slice (some ⟨W.heap.size + 1, 0, none⟩) m m, .pointer (some ⟨Bx, 0, none⟩), .pointer (some ⟨p, 0, none⟩), .bool false, .pointer (some ⟨p, 0, none⟩), .pointer (some ⟨p, 0, none⟩), .pointer (some ⟨p, 0, none⟩), .slice A m c, .int .i64 m, .slice (some ⟨W.heap.size + 1, 0, none⟩) m m, .slice (some ⟨W.heap.size + 1, 0, none⟩) m m, .pointer (some ⟨p, 0, none⟩), .pointer (some ⟨p, 0, none⟩), .pointer (some ⟨p, 0, none⟩), .slice A m c, .int .i64 m, .slice (some ⟨W.heap.size + 1, 0, none⟩) m m, .tuple #[], .slice (some ⟨W.heap.size + 1, 0, none⟩) m m, .func (.func 50) #[] #[.pointer (some ⟨V3.heap.size, 0, none⟩)], agg x, undef, undef, undef, undef, undef, undef, undef], defers := [] })
    (fun x a' s X1 X2 row hs hg hr => by
      obtain ⟨Bx, hb, ha⟩ := hs
      refine ⟨Bx, (hg.block _ (lt_of_block hb) (fun e => ?_)).trans hb, ha⟩
      obtain ⟨_, o, ho, hc⟩ := hr Bx e.symm
      rw [hb] at ho; cases ho; cases hc)
    ?assign ?body ?done ?stop
  case assign =>
    rintro l' pre x V K ⟨hj, hby⟩ hK
    unfold agg at hK ⊢
    gi_wp2
    exact hK _ _ ((KeepsOthers.alloc _ _).from _) ((KpI.refl _ V).alloc _) ⟨HJ.out _ V _ none hj (World.grownBy_alloc V _ none) (fun r e => by cases e), Boxed.alloc hby _⟩ ⟨V.heap.size, blk_new V _, rfl⟩
  case body =>
    rintro l' pre x a' V hl' ⟨r, hr⟩ ⟨hj, hby⟩ ⟨Bx, hbx, rfl⟩ hlt
    have hc0 := hby.cell
    have hb0' := blk_c hbx 0
    have hb1' := blk_c hbx 1
    obtain ⟨fn, tmps, assign, body, hy, hR0⟩ := HY.out (pre.map prE) (prE x) V hj (by rw [List.length_map, ← HRL.out, List.length_map]; exact hlt)
    unfold encP prE at hy
    have hR2 : RoundIn (F.inRound l') (n - 1 - 1 - 1) Try.prog l fn tmps assign body V _ := RoundIn.anyDepth' hd _ hR0
    have HBYv := Kp.mk hby
    clear hj hby hbx hR0 hr
    have h11 : 1 ≤ n - 1 - 1 := by omega
    gi_wp2
    refine hR2.mono ?_
    rintro e W3 (⟨rfl, hJ3, hc3⟩ | ⟨rfl, hJx3, hc3⟩)
    · have hkf : KeepsFrom V4.heap.size V W3 := ⟨hc3.size, fun k o hB hk _ => (hc3.block k (lt_of_block hk) (fun h => by have := HLow.out _ h; omega)).trans hk⟩
      have HC3 := Kp.mk hc3
      have HJ3 := Kp.mk hJ3
      have HKF := Kp.mk hkf
      clear hJ3 hc3 hkf
      gi_wp2
      refine ⟨HKF.out, KpI.of_chg HC3.out (fun k hk => .inl hk), ?_, HC3.out.at HBYv.out (fun h => by have := HLow.out _ h; omega)⟩
      rw [List.map_append]
      exact HJ3.out
    · have hkf : KeepsFrom V4.heap.size V W3 := ⟨hc3.size, fun k o hB hk _ => (hc3.block k (lt_of_block hk) (fun h => by have := HLow.out _ h; omega)).trans hk⟩
      have HJ3 := Kp.mk hJx3
      have HKF := Kp.mk hkf
      clear hJx3 hc3 hkf
      gi_wp2
      refine ⟨HKF.out, rfl, ?_⟩
      rw [List.map_append]
      exact HJ3.out
  case done =>
    rintro D ys V hD rfl ⟨hj, _⟩ hK
    have HJD := Kp.mk hj
    have HKD := Kp.mk hK
    clear hj hK
    gi_wp2
    refine ⟨by simp, .inl ⟨_, _, rfl, run_takeDeferred HKD.out, ?_⟩⟩
    refine ⟨_, results_none rfl _ _ _, ⟨_, rfl⟩, .inl ?_⟩
    rw [← HRL.out]
    exact HJ.out.putObj _ HJD.out (by omega) HKD.out rfl
  case stop =>
    rintro D cc pre V hD hpre ⟨rfl, hj⟩ hK
    have HJD := Kp.mk hj
    have HKD := Kp.mk hK
    clear hj hK
    gi_wp2
    refine ⟨by simp, .inl ⟨_, _, rfl, run_takeDeferred HKD.out, ?_⟩⟩
    refine ⟨_, results_none rfl _ _ _, ⟨_, rfl⟩, .inr ⟨pre.map prE, ?_, HJx.out.putObj _ HJD.out (by omega) HKD.out rfl⟩⟩
    rw [← HRL.out]
    exact hpre.map prE
end Go.Proofs.Ytobgabjoehjpcaa
