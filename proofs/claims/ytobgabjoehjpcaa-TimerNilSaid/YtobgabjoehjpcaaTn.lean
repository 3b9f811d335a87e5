/- TimerNil walked: it answers true; no condition. -/
import Derived.Test.YtobgabjoehjpcaaVc
import Derived.Test.YtobgabjoehjpcaaAw
namespace Go.Proofs.Ytobgabjoehjpcaa
open Go.RowKit Go.Shelf
attribute [local go_sem] Oper.semAt_some

set_option maxHeartbeats 1000000 in
theorem seq_nil (F : Fence) (n : Nat) (h41 : F.fn 41) (hro : F.round = none) (w : World) (Bw : Nat) (X : Nat → Nat → Prop) (hBw : w.cell? ⟨Bw, 0, none⟩ = some (.pointer none)) : SeqS F n Try.prog 41 #[.pointer (some ⟨Bw, 0, none⟩)] encP X [] w := by
  intro l J Jx W hW _ hJ _ _ h0
  have hb := (hW.cell (World.block_lt_of_cell? w _ hBw)).trans hBw
  have hlt := World.block_lt_of_cell? W _ hb
  have HJ := Kp.mk hJ
  have H0 := Kp.mk h0
  clear hJ h0 hW hBw
  refine callsIn_of_wp Try.func41 rfl h41 ?_ hro
  simp only [Try.ntmps41, List.size_toArray, List.length_cons, List.length_nil, Nat.reduceAdd, Nat.reduceSub, Array.replicate_succ, Array.replicate_zero, List.push_toArray, List.append_toArray, List.nil_append, List.cons_append]
  gi_wp2
  refine bodyPost_ret (results_none rfl _ _ _) rfl ?_
  exact ⟨⟨_, rfl⟩, .inl (HJ.out.alloc _ H0.out)⟩
set_option maxHeartbeats 400000 in
theorem wlen_nil (w : World) : Calls Try.prog 24 #[.pointer none] w fun e w' => e = .returned (.int .i64 0) ∧ w = w' := by
  go_enter Try.func24, Try.ntmps24
  go_wp2
  go_ret
  exact ⟨rfl, rfl⟩
set_option maxHeartbeats 400000 in
theorem when_nil (w : World) (r : Int) : Calls Try.prog 23 #[.pointer none, .int .i64 r] w fun e w' => e = .returned (.tuple #[.int .i64 0, .int .i64 2]) ∧ w = w' := by
  go_enter Try.func23, Try.ntmps23
  go_wp2
  go_ret2
  exact ⟨rfl, rfl⟩
set_option maxHeartbeats 400000 in
theorem cancel_nil (w : World) (r : Int) : Calls Try.prog 26 #[.pointer none, .int .i64 r] w fun e w' => e = .returned (.tuple #[.int .i64 0, .int .i64 2]) ∧ w = w' := by
  go_enter Try.func26, Try.ntmps26
  go_wp2_with (go_at_call 23; refine (when_nil _ _).mono ?_; rintro e w' ⟨rfl, rfl⟩)
  go_ret2
  exact ⟨rfl, rfl⟩
set_option maxHeartbeats 400000 in
theorem next_nil (w : World) : Calls Try.prog 25 #[.pointer none] w fun e w' => e = .returned (.tuple #[.int .i64 0, .int .i64 2]) ∧ w = w' := by
  go_enter Try.func25, Try.ntmps25
  go_wp2
  go_ret2
  exact ⟨rfl, rfl⟩
set_option maxHeartbeats 400000 in
theorem due_nil (w : World) (r : Int) : Calls Try.prog 14 #[.pointer none, .int .i64 r] w fun e w' => e = .returned (.tuple #[.slice none 0 0, .int .i64 2]) ∧ w = w' := by
  go_enter Try.func14, Try.ntmps14
  go_wp2
  go_ret2
  exact ⟨rfl, rfl⟩
set_option maxHeartbeats 400000 in
theorem set_nil (w : World) (r d : Int) : Calls Try.prog 18 #[.pointer none, .int .i64 r, .int .i64 d] w fun e w' => e = .returned (.int .i64 2) ∧ w = w' := by
  go_enter Try.func18, Try.ntmps18
  go_wp2
  go_ret
  exact ⟨rfl, rfl⟩
set_option maxRecDepth 100000 in
set_option maxHeartbeats 4000000 in
theorem all_nil_in (F : Fence) (n : Nat) (h20 : F.fn 20) (h24 : F.fn 24) (h32 : F.fn 32) (h41 : F.fn 41) (hro : F.round = none) (hn : 10 ≤ n) (hwl : ∀ w, CallsIn F (n - 1) Try.prog 24 #[.pointer none] w fun e w' => e = .returned (.int .i64 0) ∧ w = w')
    (w : World) :
    CallsIn F n Try.prog 20 #[.pointer none, .slice none 0 0] w fun e w' => e = .returned (.bool true) ∧ Below w.heap.size w w' := by
  have h1 : 1 ≤ n := by omega
  have hfe : ∀ (w : World) (b : Nat), (binOp BinOp.eql 68 (.func (.func 41) #[] #[.pointer (some ⟨b, 0, none⟩)]) .nilFunc).run Try.prog w = .ok (.bool false) w := fun _ _ => by kernel_rfl
  have HWL := Kp.mk hwl
  clear hwl
  refine callsIn_of_wp_marks Try.func20 rfl h20 ?_ hro
  simp only [Try.ntmps20, List.size_toArray, List.length_cons, List.length_nil, Nat.reduceAdd, Nat.reduceSub, Array.replicate_succ, Array.replicate_zero, List.push_toArray, List.append_toArray, List.nil_append, List.cons_append]
  gi_wp2_with (gi_at_call 32; refine (mkAll_in F (n - 1) h32 hro _ _).mono ?_; rintro e w' ⟨rfl, rfl⟩)
  obtain ⟨W0, hW0⟩ : ∃ W0, W0 = ((((w.alloc (.cells #[.slice none 0 0] 38)).alloc (.cells #[.bool false] 4)).alloc (.cells #[.pointer none] 28)).alloc (.cells #[.int .i64 0] 3)) := ⟨_, rfl⟩
  have e1 : (w.alloc (.cells #[.slice none 0 0] 38)).heap.size = w.heap.size + 1 := by simp
  have e2 : ((w.alloc (.cells #[.slice none 0 0] 38)).alloc (.cells #[.bool false] 4)).heap.size = w.heap.size + 1 + 1 := by simp
  have e3 : (((w.alloc (.cells #[.slice none 0 0] 38)).alloc (.cells #[.bool false] 4)).alloc (.cells #[.pointer none] 28)).heap.size = w.heap.size + 1 + 1 + 1 := by simp
  have bL : Boxed W0 w.heap.size 38 (.slice none 0 0) := by rw [hW0]; exact (((Boxed.new w 38 _).alloc _).alloc _).alloc _
  have bR : Boxed W0 (w.heap.size + 1) 4 (.bool false) := by rw [hW0, ← e1]; exact ((Boxed.new _ 4 _).alloc _).alloc _
  have bW : Boxed W0 (w.heap.size + 1 + 1) 28 (.pointer none) := by rw [hW0, ← e2]; exact (Boxed.new _ 28 _).alloc _
  have bK : Boxed W0 (w.heap.size + 1 + 1 + 1) 3 (.int .i64 0) := by rw [hW0, ← e3]; exact Boxed.new _ 3 _
  have hB0 : Below w.heap.size w W0 := by rw [hW0]; exact ((((Below.refl _ w).alloc (Nat.le_refl _) _).alloc (by simp) _).alloc (by simp; omega) _).alloc (by simp; omega) _
  have hsz : W0.heap.size = w.heap.size + 4 := by rw [hW0]; simp
  rw [← hW0]
  clear hW0 e1 e2 e3
  refine range_own hro h1 (gf := 41) (lb := #[.pointer (some ⟨w.heap.size + 1 + 1, 0, none⟩)]) rfl h41 (enters_of Try.func41 (by kernel_rfl) rfl) (Y := fun k => k = w.heap.size + 1 ∨ k = w.heap.size + 1 + 1 + 1)
    (seq_nil F (n - 1) h41 hro W0 (w.heap.size + 1 + 1) _ bW.cell)
    (by rintro k (h | h) <;> omega) (Below.refl _ _) (fun _ => rfl)
    (fun pre V => Chg (fun k => k = w.heap.size + 1 ∨ k = w.heap.size + 1 + 1 + 1) W0 V ∧ Boxed V (w.heap.size + 1) 4 (.bool false) ∧ Boxed V (w.heap.size + 1 + 1 + 1) 3 (.int .i64 pre.length) ∧ pre <+: ([] : List (Int × Int)))
    (fun pre V => ¬ pre <+: ([] : List (Int × Int)))
    (OwnFrom.and (ownFrom_chg (Nat.le_refl _)) (OwnFrom.and boxed_from (OwnFrom.and (Own.from (boxed_own _ 3 (fun pre : List (Int × Int) => .int .i64 pre.length)) _) (ownFrom_pure _ _))))
    (ownFrom_pure _ _) ⟨Chg.refl _ _, bR, bK, List.nil_prefix⟩
    (fun x => { tmps := #[.pointer none, .slice none 0 0, undef, .pointer (some ⟨w.heap.size, 0, none⟩), .pointer (some ⟨w.heap.size + 1, 0, none⟩), .func (.func 41) #[] #[.pointer (some ⟨w.heap.size + 1 + 1, 0, none⟩)], .pointer (some ⟨w.heap.size + 1 + 1 + 1, 0, none⟩), .int .i64 x.1, .int .i64 x.2, .pointer none, .func (.func 41) #[] #[.pointer (some ⟨w.heap.size + 1 + 1, 0, none⟩)], .func (.func 41) #[] #[.pointer (some ⟨w.heap.size + 1 + 1, 0, none⟩)], .bool false, undef, undef, undef, undef, undef, undef, undef, undef, .func (.func 41) #[] #[.pointer (some ⟨w.heap.size + 1 + 1, 0, none⟩)], .int .i64 x.1, .int .i64 x.2, undef, undef, undef, undef, undef, undef, undef, undef, undef, undef, undef, undef, undef, undef, undef, undef, undef, undef, undef, undef, undef, undef, undef, undef, undef, undef], defers := [] })
    ?assign ?body ?done ?stop
  case assign =>
    rintro l' x V K hK
    unfold encP
    gi_wp2
    exact hK
  case body =>
    rintro l' pre x V _ hlt
    exact absurd hlt (Nat.not_lt_zero _)
  case done =>
    rintro D V hD ⟨hc, hr, hk, hp⟩ hK
    have bLv : Boxed V w.heap.size 38 (.slice none 0 0) := hc.at bL (by omega)
    have cL := bLv.cell
    have cK := hk.cell
    have cR := hr.cell
    have fR := hr.frozen
    have hbel : Below w.heap.size w V := chg_below hB0 hc (fun g hg => by omega) hB0.size
    have HKD := Kp.mk hK
    have HR := Kp.mk hr
    have HBel := Kp.mk hbel
    clear hc hr hk hp hK bLv hbel bL bR bW bK hB0
    have hmx : Try.prog.follows .mixedOrders = true := by kernel_rfl
    gi_wp2
    gi_region_with_o (gi_at_call 24; refine (HWL.out _).mono ?_; rintro e w' ⟨rfl, rfl⟩)
    all_goals gi_wp2
    all_goals
      have hK2 : (V.setCell ⟨w.heap.size + 1, 0, none⟩ (.bool true)).drew.heap[D]? = some (.deferred (some [])) := (KeepsOthers.setCell V ⟨w.heap.size + 1, 0, none⟩ (.bool true)).same D _ HKD.out rfl
      have bR2 : Boxed (V.setCell ⟨w.heap.size + 1, 0, none⟩ (.bool true)).drew (w.heap.size + 1) 4 (.bool true) := HR.out.set _
      refine ⟨by simp, .inl ⟨_, _, rfl, run_takeDeferred hK2, ?_⟩⟩
      have hc5 := cell_kept bR2.cell (grownBy_putObj' _ D (.deferred none)) (fun r e => by cases e; exact ⟨_, hK2, rfl⟩)
      refine ⟨.bool true, ?_, rfl, (HBel.out.setCell (p := ⟨w.heap.size + 1, 0, none⟩) (by simp) _).drew.trans (belowK_b (w := w) (Nat.le_refl _) _ D _ _ (by omega) hK2 rfl rfl)⟩
      simp [results, Try.f20, go_sem, hc5]
  case stop =>
    rintro D pre V hD hpre hn _
    exact (hn hpre).elim
theorem all_nil (w : World) : Calls Try.prog 20 #[.pointer none, .slice none 0 0] w fun e w' => e = .returned (.bool true) ∧ Below w.heap.size w w' :=
  (callsIn_wide (n := 10)).1 (all_nil_in Fence.wide 10 trivial trivial trivial trivial rfl (by omega) (fun w => callsIn_wide.2 (wlen_nil w)) w)
set_option maxRecDepth 100000 in
set_option maxHeartbeats 2000000 in
theorem nil_any (w : World) (ref tick : Int) : Calls Try.prog 9 #[.int .i64 ref, .int .i64 tick] w fun e w' => e = .returned (.bool true) ∧ Below w.heap.size w w' := by
  go_enter Try.func9, Try.ntmps9
  go_wp2_with (first
    | (go_at_call 26; refine (cancel_nil _ _).mono ?_; rintro e w' ⟨rfl, rfl⟩)
    | (go_at_call 23; refine (when_nil _ _).mono ?_; rintro e w' ⟨rfl, rfl⟩)
    | (go_at_call 25; refine (next_nil _).mono ?_; rintro e w' ⟨rfl, rfl⟩)
    | (go_at_call 14; refine (due_nil _ _).mono ?_; rintro e w' ⟨rfl, rfl⟩)
    | (go_at_call 18; refine (set_nil _ _ _).mono ?_; rintro e w' ⟨rfl, rfl⟩)
    | (go_at_call 20; refine (all_nil _).mono ?_; rintro e w1 ⟨rfl, hb1⟩; have HB1 := Kp.mk hb1; clear hb1)
    | (go_at_call 12; refine (awake_any _).mono ?_; rintro e w2 ⟨rfl, hb2⟩; have HB2 := Kp.mk hb2; clear hb2))
  go_ret
  exact ⟨rfl, bstep HB1.out HB1.out.size HB2.out⟩
end Go.Proofs.Ytobgabjoehjpcaa
