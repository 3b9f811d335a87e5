/- What all of package frame's law collects out of what All tells; for at most 10^6 words. -/
import Derived.Test.YthdfmopbihpcoaaO
import Derived.Test.YthdfmopbihpcoaaRange
namespace Go.Proofs.Ythdfmopbihpcoaa
open Go.RowKit Go.Shelf
attribute [local go_sem] Oper.semAt_some

/-- Up to most of them (most 0: all). -/
def cutMost (most : Int) (ws : List Int) : List Int := if 1 ≤ most ∧ most ≤ ws.length then ws.take most.toNat else ws
def AllPost (w : World) (most : Int) (ws : List Int) (e : Ending) (w' : World) : Prop := ∃ v, e = .returned v ∧ Own w' 29 eU64 v (cutMost most ws) ∧ Fresh w v ∧ Below w.heap.size w w'
/-- That the loop has not been left. -/
def Going (most : Int) (pre : List Int) : Prop := most < 1 ∨ (pre.length : Int) < most

set_option maxHeartbeats 1000000 in
theorem mkAll_in (F : Fence) (n : Nat) (h : F.fn 38) (hro : F.round = none) (p0 : Option Addr) (w : World) :
    CallsIn F n Try.prog 38 #[.pointer p0] w fun e w' => e = .returned (.func (.func 47) #[] #[.pointer (some ⟨w.heap.size, 0, none⟩)]) ∧ w' = w.alloc (.cells #[.pointer p0] 24) := by
  refine callsIn_of_wp Try.func38 rfl h ?_ hro
  simp only [Try.ntmps38, List.size_toArray, List.length_cons, List.length_nil, Nat.reduceAdd, Nat.reduceSub, Array.replicate_succ, Array.replicate_zero, List.push_toArray, List.append_toArray, List.nil_append, List.cons_append]
  gi_wp2
  go_ret
  exact ⟨rfl, rfl⟩

set_option maxRecDepth 100000 in
set_option maxHeartbeats 4000000 in
theorem all_in (F : Fence) (n : Nat) (h10 : F.fn 10) (h38 : F.fn 38) (h47 : F.fn 47) (hro : F.round = none) (hn : 4 ≤ n) (w : World) (p0 : Option Addr) (most : Int) (ws : List Int) (hlen : ws.length ≤ 1000000)
    (hseq : ∀ W B Bn, Below w.heap.size w W → Bn < W.heap.size → W.cell? ⟨Bn, 0, none⟩ = some (.pointer p0) → B < W.heap.size → (∀ k, ¬ OwnedAt W B 23 k) → SeqStopsK F (n - 1) Try.prog 47 #[.pointer (some ⟨Bn, 0, none⟩)] (fun x : Int => #[Value.int .u64 x]) (KpB w.heap.size B 23) (fun ys => ys = ws) (fun pre => pre <+: ws) ws.length W) :
    CallsIn F n Try.prog 10 #[.pointer p0, .int .i64 most] w (AllPost w most ws) := by
  have h1 : 1 ≤ n := by omega
  have HSEQ := Kp.mk hseq
  clear hseq
  have hfe : ∀ (w : World) (b : Nat), (binOp BinOp.eql 71 (.func (.func 47) #[] #[.pointer (some ⟨b, 0, none⟩)]) .nilFunc).run Try.prog w = .ok (.bool false) w := fun _ _ => by kernel_rfl
  refine callsIn_of_wp_marks Try.func10 rfl h10 ?_ hro
  simp only [Try.ntmps10, List.size_toArray, List.length_cons, List.length_nil, Nat.reduceAdd, Nat.reduceSub, Array.replicate_succ, Array.replicate_zero, List.push_toArray, List.append_toArray, List.nil_append, List.cons_append]
  gi_wp2_with (gi_at_call 38; refine (mkAll_in F (n - 1) h38 hro _ _).mono ?_; rintro e w' ⟨rfl, rfl⟩)
  have bM0 : Boxed (w.alloc (.cells #[.int .i64 most] 3)) w.heap.size 3 (.int .i64 most) := Boxed.new w 3 _
  have bM : Boxed (((w.alloc (.cells #[.int .i64 most] 3)).alloc (.cells #[.slice none 0 0] 23)).alloc (.cells #[.pointer p0] 24)) w.heap.size 3 (.int .i64 most) := (bM0.alloc _).alloc _
  have bL0 := Boxed.new (w.alloc (.cells #[.int .i64 most] 3)) 23 (.slice none 0 0)
  rw [World.size_alloc] at bL0
  have bL := bL0.alloc (.cells #[.pointer p0] 24)
  have bS := Boxed.new ((w.alloc (.cells #[.int .i64 most] 3)).alloc (.cells #[.slice none 0 0] 23)) 24 (.pointer p0)
  rw [World.size_alloc, World.size_alloc] at bS
  have hB0 : Below w.heap.size w (((w.alloc (.cells #[.int .i64 most] 3)).alloc (.cells #[.slice none 0 0] 23)).alloc (.cells #[.pointer p0] 24)) := (((Below.refl _ w).alloc (Nat.le_refl _) _).alloc (by simp) _).alloc (by simp; omega) _
  have hno : ∀ k, ¬ OwnedAt (((w.alloc (.cells #[.int .i64 most] 3)).alloc (.cells #[.slice none 0 0] 23)).alloc (.cells #[.pointer p0] 24)) (w.heap.size + 1) 23 k := by
    rintro k ⟨v, hv, hk⟩
    have e := hv.cell.symm.trans bL.cell
    cases e
    cases hk
  have hsz : (((w.alloc (.cells #[.int .i64 most] 3)).alloc (.cells #[.slice none 0 0] 23)).alloc (.cells #[.pointer p0] 24)).heap.size = w.heap.size + 3 := by simp
  refine wpIn_rangeFunc_ownG hro h1 (gf := 47) (lb := #[.pointer (some ⟨w.heap.size + 1 + 1, 0, none⟩)]) rfl h47 (enters_of Try.func47 (by kernel_rfl) rfl)
    (HSEQ.out _ (w.heap.size + 1) (w.heap.size + 1 + 1) hB0 (by omega) bS.cell (by omega) hno) KpB.trans (KpB.turn (by omega) (by omega)) (Below.refl _ _) (fun _ => rfl)
    (fun pre W => Coll w 29 eU64 23 (w.heap.size + 1) id pre W ∧ Boxed W w.heap.size 3 (.int .i64 most) ∧ Going most pre)
    (fun c pre W => Coll w 29 eU64 23 (w.heap.size + 1) id pre W ∧ (c = .exit 0 ∧ (pre.length : Int) = most ∧ 1 ≤ most))
    (OwnFrom.and (coll_own (by omega)) (OwnFrom.and boxed_from (ownFrom_pure _ _)))
    (fun c => OwnFrom.and (coll_own (by omega)) (ownFrom_pure _ _))
    ⟨⟨⟨_, bL, Own.nil _ _ _, Fresh.nil _ _ _⟩, hB0⟩, bM, by unfold Going; simp; omega⟩
    (fun x => { tmps := #[.pointer p0, .int .i64 most, undef, .pointer (some ⟨w.heap.size, 0, none⟩), .slice none 0 0, .pointer (some ⟨w.heap.size + 1, 0, none⟩), .func (.func 47) #[] #[.pointer (some ⟨w.heap.size + 1 + 1, 0, none⟩)], .int .u64 x, .pointer p0, .func (.func 47) #[] #[.pointer (some ⟨w.heap.size + 1 + 1, 0, none⟩)], .func (.func 47) #[] #[.pointer (some ⟨w.heap.size + 1 + 1, 0, none⟩)], .bool false, .func (.func 47) #[] #[.pointer (some ⟨w.heap.size + 1 + 1, 0, none⟩)], .int .u64 x, undef, undef, undef, undef, undef, undef, undef, undef, undef], defers := [] }) ?assign ?body ?done ?stop
  case assign =>
    intro l x W K hK
    gi_wp2
    exact hK
  case body =>
    rintro l pre x W ⟨⟨⟨v, hv, ho, hf⟩, hbel⟩, hm, hg⟩ hlt
    clear bM0 bM bL0 bL bS hB0 hno hsz hfe
    obtain ⟨A, c, hvs, _⟩ := ho.shape
    subst hvs
    have hc := hv.cell
    have hlt' : pre.length < 1000000 := by omega
    have HV := Kp.mk hv
    have HO := Kp.mk ho
    have HF := Kp.mk hf
    have HB := Kp.mk hbel
    have HM := Kp.mk hm
    have HG := Kp.mk hg
    have ho' : Own W 29 eU64 (.slice A pre.length c) pre := ho
    have hw : w.heap.size ≤ W.heap.size := hbel.size
    clear hv ho hf hbel hm hg
    have hwne : w.heap.size ≠ w.heap.size + 1 := by omega
    cases heb : ((pre.length : Int) + 1 == most)
    · gi_wp2_with (gi_at_builtin; refine app1_evIn T23 x rfl _ _ rfl ho' rfl rfl rfl (by simp) rfl (by omega) (by omega) ?_; intro A' n' c' w1 a0 a1 a2 a3; obtain ⟨k1, k2, k3, k4, k5, k6, k7⟩ := coll_app HV.out (by decide) HO.out HF.out HB.out (by omega) a1 a2 a3; have hc1 := k1.cell; have hf1 := k1.frozen; have hm1 := (a2.at HM.out (HO.out.ne HM.out (by decide))); have hmc : w1.cell? ⟨w.heap.size, 0, none⟩ = some (.int .i64 most) := Boxed.cell hm1; obtain rfl : n' = pre.length + 1 := a0.out)
      refine ⟨k5.from _, KpB.app HV.out k2 k7 a3 k6, ⟨⟨_, k2, k3, k4⟩, HB.out.trans k6⟩, (k7.at HM.out (fun h => ?_)), ?_⟩
      · rcases h with h | h
        · omega
        · exact HO.out.ne HM.out (by decide) h
      · have := HG.out
        unfold Going at this ⊢
        simp at heb ⊢
        omega
    · gi_wp2_with (gi_at_builtin; refine app1_evIn T23 x rfl _ _ rfl ho' rfl rfl rfl (by simp) rfl (by omega) (by omega) ?_; intro A' n' c' w1 a0 a1 a2 a3; obtain ⟨k1, k2, k3, k4, k5, k6, k7⟩ := coll_app HV.out (by decide) HO.out HF.out HB.out (by omega) a1 a2 a3; have hc1 := k1.cell; have hf1 := k1.frozen; have hm1 := (a2.at HM.out (HO.out.ne HM.out (by decide))); have hmc : w1.cell? ⟨w.heap.size, 0, none⟩ = some (.int .i64 most) := Boxed.cell hm1; obtain rfl : n' = pre.length + 1 := a0.out)
      have heq : (pre.length : Int) + 1 = most := by simpa using heb
      exact ⟨k5.from _, ⟨⟨_, k2, k3, k4⟩, HB.out.trans k6⟩, rfl, by simp; omega, by omega⟩
  case done =>
    rintro D ys W hD rfl ⟨⟨⟨v, hv, ho, hf⟩, hbel⟩, hm, hg⟩ hK
    have hc := hv.cell
    have HO := Kp.mk ho
    have HK := Kp.mk hK
    gi_wp2
    refine ⟨by simp, .inl ⟨_, _, rfl, run_takeDeferred HK.out, ?_⟩⟩
    refine ⟨_, results_tmp rfl _ _ _, v, rfl, ?_, hf, hbel.trans (belowK_b (w := w) (Nat.le_refl _) W D _ _ (by omega) HK.out rfl rfl)⟩
    have e : cutMost most ys = ys := by unfold cutMost; rw [if_neg (by unfold Going at hg; omega)]
    rw [e]
    exact HO.out.putObj _ HK.out rfl
  case stop =>
    rintro D c pre W hD hSp ⟨⟨⟨v, hv, ho, hf⟩, hbel⟩, rfl, hlen2⟩ hK
    have hc := hv.cell
    have HO := Kp.mk ho
    have HK := Kp.mk hK
    gi_wp2
    refine ⟨by simp, .inl ⟨_, _, rfl, run_takeDeferred HK.out, ?_⟩⟩
    refine ⟨_, results_tmp rfl _ _ _, v, rfl, ?_, hf, hbel.trans (belowK_b (w := w) (Nat.le_refl _) W D _ _ (by omega) HK.out rfl rfl)⟩
    have hle := hSp.length_le
    have e : cutMost most ws = pre := by
      unfold cutMost
      rw [if_pos (by omega), ← hlen2.1, Int.toNat_natCast]
      exact (List.prefix_iff_eq_take.1 hSp).symm
    rw [e]
    exact HO.out.putObj _ HK.out rfl

theorem all_any (w : World) (p0 : Option Addr) (most : Int) (ws : List Int) (hlen : ws.length ≤ 1000000)
    (hseq : ∀ W B Bn, Below w.heap.size w W → Bn < W.heap.size → W.cell? ⟨Bn, 0, none⟩ = some (.pointer p0) → B < W.heap.size → (∀ k, ¬ OwnedAt W B 23 k) → SeqStopsK Fence.wide 9 Try.prog 47 #[.pointer (some ⟨Bn, 0, none⟩)] (fun x : Int => #[Value.int .u64 x]) (KpB w.heap.size B 23) (fun ys => ys = ws) (fun pre => pre <+: ws) ws.length W) :
    Calls Try.prog 10 #[.pointer p0, .int .i64 most] w (AllPost w most ws) :=
  (callsIn_wide (n := 10)).1 (all_in Fence.wide 10 trivial trivial trivial rfl (by omega) w p0 most ws hlen hseq)

/-! ### of what there is not -/
set_option maxHeartbeats 1000000 in
theorem seq1_nil (F : Fence) (n : Nat) (h47 : F.fn 47) (hro : F.round = none) (W1 : World) (l Bn : Nat) (J Jx : List Int → World → Prop) (hc1 : W1.cell? ⟨Bn, 0, none⟩ = some (.pointer none)) (h0 : J [] W1) :
    CallsIn F n Try.prog 47 #[.func (.yield l) #[] #[], .pointer (some ⟨Bn, 0, none⟩)] W1 fun e W' => (∃ v, e = .returned v) ∧ ((∃ xs, xs = [] ∧ J xs W') ∨ (∃ pre, pre <+: [] ∧ Jx pre W')) := by
  refine callsIn_of_wp Try.func47 rfl h47 ?_ hro
  simp only [Try.ntmps47, List.size_toArray, List.length_cons, List.length_nil, Nat.reduceAdd, Nat.reduceSub, Array.replicate_succ, Array.replicate_zero, List.push_toArray, List.append_toArray, List.nil_append, List.cons_append]
  refine wpIn_scope_straight ?_
  gi_wp2
  rw [Exit.noGoto_ret]
  refine bodyPost_ret (results_none rfl _ _ _) rfl ?_
  exact ⟨⟨_, rfl⟩, .inl ⟨[], rfl, h0⟩⟩
theorem seq_nil (F : Fence) (n : Nat) (h47 : F.fn 47) (hro : F.round = none) (W : World) (Bn : Nat) (Kp0 : World → World → Prop) (hBn : Bn < W.heap.size) (hc : W.cell? ⟨Bn, 0, none⟩ = some (.pointer none)) :
    SeqStopsK F n Try.prog 47 #[.pointer (some ⟨Bn, 0, none⟩)] (fun x : Int => #[Value.int .u64 x]) Kp0 (fun ys => ys = []) (fun pre => pre <+: []) 0 W := fun l J Jx W1 hW _ _ _ h0 =>
  seq1_nil F n h47 hro W1 l Bn J Jx ((hW.cell (p := ⟨Bn, 0, none⟩) hBn).trans hc) h0
theorem all_nil (w : World) (most : Int) : Calls Try.prog 10 #[.pointer none, .int .i64 most] w fun e w' => ∃ A c, e = .returned (.slice A 0 c) ∧ Below w.heap.size w w' := by
  refine (all_any w none most [] (by simp) (fun W B Bn _ hBn hc _ _ => seq_nil _ _ trivial rfl W Bn _ hBn hc)).mono ?_
  rintro e w' ⟨v, rfl, ho, _, hb⟩
  have e1 : cutMost most [] = [] := by unfold cutMost; split <;> simp
  rw [e1] at ho
  obtain ⟨A, c, hv, _⟩ := ho.shape
  subst hv
  exact ⟨A, c, rfl, hb⟩

end Go.Proofs.Ythdfmopbihpcoaa
