/- What all of package names's law collects: the entries rising by name, up to most; for names that stay, or none. -/
import Derived.Test.YtmkfpaohlmejkaaDoorOb
import Derived.Test.YtmkfpaohlmejkaaDoorMapR
namespace Go.Proofs.YtmkfpaohlmejkaaDoor
open Go.RowKit Go.Shelf
attribute [local go_sem] Oper.semAt_some

set_option maxHeartbeats 1000000 in
theorem all1_nil_in (F : Fence) (n : Nat) (h30 : F.fn 30) (hro : F.round = none) (W : World) (l Bg : Nat) (hBg : Boxed W Bg 23 (.pointer none)) (J Jx : List En → World → Prop) (h0 : J [] W) :
    CallsIn F n Tryd.prog 30 #[.func (.yield l) #[] #[], .pointer (some ⟨Bg, 0, none⟩)] W fun e W' => (∃ v, e = .returned v) ∧ ((∃ ys, ys = [] ∧ J ys W') ∨ (∃ pre, pre <+: [] ∧ Jx pre W')) := by
  have hc := hBg.cell
  clear hBg
  refine callsIn_of_wp Tryd.func30 rfl h30 ?_ hro
  simp only [Tryd.ntmps30, List.size_toArray, List.length_cons, List.length_nil, Nat.reduceAdd, Nat.reduceSub, Array.replicate_succ, Array.replicate_zero, List.push_toArray, List.append_toArray, List.nil_append, List.cons_append]
  gi_wp2
  refine bodyPost_ret (results_none rfl _ _ _) rfl ?_
  exact ⟨⟨_, rfl⟩, .inl ⟨[], rfl, h0⟩⟩
/-- Up to most of them; 0: all. -/
def cutE (most : Nat) (xs : List En) : List En := if 0 < most ∧ most ≤ xs.length then xs.take most else xs
def CollPost (w : World) (xs : List En) (e : Ending) (w' : World) : Prop := ∃ v, e = .returned v ∧ Own w' 45 eEn v xs ∧ Fresh w v ∧ Below w.heap.size w w'
set_option maxHeartbeats 1000000 in
theorem mkAll_in (F : Fence) (n : Nat) (h : F.fn 24) (hro : F.round = none) (p0 : Option Addr) (w : World) :
    CallsIn F n Tryd.prog 24 #[.pointer p0] w fun e w' => e = .returned (.func (.func 30) #[] #[.pointer (some ⟨w.heap.size, 0, none⟩)]) ∧ w' = w.alloc (.cells #[.pointer p0] 23) := by
  refine callsIn_of_wp Tryd.func24 rfl h ?_ hro
  simp only [Tryd.ntmps24, List.size_toArray, List.length_cons, List.length_nil, Nat.reduceAdd, Nat.reduceSub, Array.replicate_succ, Array.replicate_zero, List.push_toArray, List.append_toArray, List.nil_append, List.cons_append]
  gi_wp2
  go_ret
  exact ⟨rfl, rfl⟩

set_option maxRecDepth 100000 in
set_option maxHeartbeats 4000000 in
theorem all_in (F : Fence) (n : Nat) (hf : F.fn 11) (hmk : F.fn 24) (h30 : F.fn 30) (hro : F.round = none) (hn : 4 ≤ n) (w : World) (p0 : Option Addr) (most : Nat) (hmm : most ≤ 1000000) (xs : List En) (hlen : xs.length ≤ 1000000)
    (hseq : ∀ W B Bg, Below w.heap.size w W → Boxed W Bg 23 (.pointer p0) → B < W.heap.size → Bg ≠ B → (∀ k, ¬ OwnedAt W B 26 k) →
      SeqStopsK F (n - 1) Tryd.prog 30 #[.pointer (some ⟨Bg, 0, none⟩)] (fun x : En => vE x) (KpB w.heap.size B 26) (fun ys => ys = xs) (fun pre => pre <+: xs) xs.length W) :
    CallsIn F n Tryd.prog 11 #[.pointer p0, .int .i64 most] w (CollPost w (cutE most xs)) := by
  have h1 : 1 ≤ n := by omega
  have HSEQ := Kp.mk hseq
  clear hseq
  have hfe : ∀ (w : World) (b : Nat), (binOp BinOp.eql 56 (.func (.func 30) #[] #[.pointer (some ⟨b, 0, none⟩)]) .nilFunc).run Tryd.prog w = .ok (.bool false) w := fun _ _ => by kernel_rfl
  refine callsIn_of_wp_marks Tryd.func11 rfl hf ?_ hro
  simp only [Tryd.ntmps11, List.size_toArray, List.length_cons, List.length_nil, Nat.reduceAdd, Nat.reduceSub, Array.replicate_succ, Array.replicate_zero, List.push_toArray, List.append_toArray, List.nil_append, List.cons_append]
  gi_wp2_with (gi_at_call 24; refine (mkAll_in F (n - 1) hmk hro _ _).mono ?_; rintro e w' ⟨rfl, rfl⟩)
  obtain ⟨W0, hW0⟩ : ∃ W0, W0 = allocN w [.cells #[.int .i64 most] 3, .cells #[.slice none 0 0] 26, .cells #[.pointer p0] 23] := ⟨_, rfl⟩
  have hsz : W0.heap.size = w.heap.size + 3 := by rw [hW0]; exact allocN_size _ _
  have hB0 : Below w.heap.size w W0 := by rw [hW0]; exact allocN_below _ _
  have bM : Boxed W0 w.heap.size 3 (.int .i64 most) := by rw [hW0]; exact allocN_at _ _ 0 _ rfl
  have bL : Boxed W0 (w.heap.size + 1) 26 (.slice none 0 0) := by rw [hW0]; exact allocN_at _ _ 1 _ rfl
  have bG : Boxed W0 (w.heap.size + 1 + 1) 23 (.pointer p0) := by rw [hW0]; exact allocN_at _ _ 2 _ rfl
  have hW1 : (((w.alloc (.cells #[.int .i64 most] 3)).alloc (.cells #[.slice none 0 0] 26)).alloc (.cells #[.pointer p0] 23)) = W0 := by rw [hW0]; rfl
  rw [hW1]
  have hno : ∀ k, ¬ OwnedAt W0 (w.heap.size + 1) 26 k := by
    rintro k ⟨v, hv, hk⟩
    have e := hv.cell.symm.trans bL.cell
    cases e
    cases hk
  clear hW1 hW0
  refine wpIn_rangeFunc_ownH hro h1 (gf := 30) (lb := #[.pointer (some ⟨w.heap.size + 1 + 1, 0, none⟩)]) rfl h30 (enters_of Tryd.func30 (by kernel_rfl) rfl)
    (HSEQ.out W0 (w.heap.size + 1) (w.heap.size + 1 + 1) hB0 bG (by omega) (by omega) hno) KpB.trans (KpB.turn (by omega) (by omega)) (Below.refl _ _) (fun _ => rfl)
    (fun pre W => Coll w 45 eEn 26 (w.heap.size + 1) id pre W ∧ Boxed W w.heap.size 3 (.int .i64 most) ∧ (most = 0 ∨ pre.length < most))
    (fun c pre W => Coll w 45 eEn 26 (w.heap.size + 1) id pre W ∧ (c = .exit 0 ∧ pre.length = most ∧ 0 < most))
    (OwnFrom.and (coll_own (by omega)) (OwnFrom.and boxed_from (ownFrom_pure _ _)))
    (fun c => OwnFrom.and (coll_own (by omega)) (ownFrom_pure _ _))
    ⟨⟨⟨_, bL, Own.nil _ _ _, Fresh.nil _ _ _⟩, hB0⟩, bM, by simp; omega⟩
    (fun x a' V => a' = { tmps := #[.pointer p0, .int .i64 most, undef, .pointer (some ⟨w.heap.size, 0, none⟩), .slice none 0 0, .pointer (some ⟨w.heap.size + 1, 0, none⟩), .func (.func 30) #[] #[.pointer (some ⟨w.heap.size + 1 + 1, 0, none⟩)], .string x.n, .int .i64 x.p, .pointer p0, .func (.func 30) #[] #[.pointer (some ⟨w.heap.size + 1 + 1, 0, none⟩)], .func (.func 30) #[] #[.pointer (some ⟨w.heap.size + 1 + 1, 0, none⟩)], .bool false, .func (.func 30) #[] #[.pointer (some ⟨w.heap.size + 1 + 1, 0, none⟩)], .string x.n, .int .i64 x.p, undef, undef, undef, undef, undef, undef, undef, undef, undef, undef, undef], defers := [] })
    (fun x a' s X1 X2 row hs hg hr => hs)
    ?assign ?body ?done ?stop
  case assign =>
    rintro l' pre x V K ⟨⟨⟨v, hv, ho, hf⟩, hbel⟩, hm, hl⟩ hK
    have hvl := hv.lt
    have hn0 : w.heap.size ≤ V.heap.size := hbel.size
    have HKK := Kp.mk (hK { tmps := #[.pointer p0, .int .i64 most, undef, .pointer (some ⟨w.heap.size, 0, none⟩), .slice none 0 0, .pointer (some ⟨w.heap.size + 1, 0, none⟩), .func (.func 30) #[] #[.pointer (some ⟨w.heap.size + 1 + 1, 0, none⟩)], .string x.n, .int .i64 x.p, .pointer p0, .func (.func 30) #[] #[.pointer (some ⟨w.heap.size + 1 + 1, 0, none⟩)], .func (.func 30) #[] #[.pointer (some ⟨w.heap.size + 1 + 1, 0, none⟩)], .bool false, .func (.func 30) #[] #[.pointer (some ⟨w.heap.size + 1 + 1, 0, none⟩)], .string x.n, .int .i64 x.p, undef, undef, undef, undef, undef, undef, undef, undef, undef, undef, undef], defers := [] } V (KeepsFrom.refl _ _) (KpB.refl V) ⟨⟨⟨v, hv, ho, hf⟩, hbel⟩, hm, hl⟩ rfl)
    clear hK hv ho hf hbel hm hl
    unfold vE
    gi_wp2
    exact HKK.out
  case body =>
    rintro l' pre x a' W hl' hr0 ⟨⟨⟨v, hv, ho, hf⟩, hbel⟩, hm, hg⟩ rfl hlt
    clear bM bL bG hB0 hno hfe
    obtain ⟨A, c, hvs, _⟩ := ho.shape
    subst hvs
    have hc := hv.cell
    have hlt' : pre.length < 1000000 := by omega
    have HV := Kp.mk hv
    have HO := Kp.mk ho
    have HF := Kp.mk hf
    have HB := Kp.mk hbel
    have HM := Kp.mk hm
    have HG := Kp.mk hg
    have ho' : Own W 45 eEn (.slice A pre.length c) pre := ho
    have hw : w.heap.size ≤ W.heap.size := hbel.size
    clear hv ho hf hbel hm hr0 hg
    have hwne : w.heap.size ≠ w.heap.size + 1 := by omega
    by_cases heb : pre.length + 1 = most
    · have HE := Kp.mk heb
      have hd : ((pre.length : Int) + 1 == (most : Int)) = true := by simp; omega
      clear heb
      gi_wp2_with (gi_at_builtin; refine app1_evIn T26 x rfl _ _ rfl ho' rfl rfl rfl (by simp) rfl (by omega) (by omega) ?_; intro A' n' c' w1 a0 a1 a2 a3; obtain ⟨k1, k2, k3, k4, k5, k6, k7⟩ := coll_app HV.out (by decide) HO.out HF.out HB.out (by omega) a1 a2 a3; have hc1 := k1.cell; have hf1 := k1.frozen; have hm1 := (a2.at HM.out (HO.out.ne HM.out (by decide))); have hmc : w1.cell? ⟨w.heap.size, 0, none⟩ = some (.int .i64 most) := Boxed.cell hm1; obtain rfl : n' = pre.length + 1 := a0.out)
      exact ⟨k5.from _, ⟨⟨_, k2, k3, k4⟩, HB.out.trans k6⟩, rfl, by have := HE.out; simp; omega, by have := HE.out; omega⟩
    · have HE := Kp.mk heb
      have hd : ((pre.length : Int) + 1 == (most : Int)) = false := by simp; omega
      clear heb
      gi_wp2_with (gi_at_builtin; refine app1_evIn T26 x rfl _ _ rfl ho' rfl rfl rfl (by simp) rfl (by omega) (by omega) ?_; intro A' n' c' w1 a0 a1 a2 a3; obtain ⟨k1, k2, k3, k4, k5, k6, k7⟩ := coll_app HV.out (by decide) HO.out HF.out HB.out (by omega) a1 a2 a3; have hc1 := k1.cell; have hf1 := k1.frozen; have hm1 := (a2.at HM.out (HO.out.ne HM.out (by decide))); have hmc : w1.cell? ⟨w.heap.size, 0, none⟩ = some (.int .i64 most) := Boxed.cell hm1; obtain rfl : n' = pre.length + 1 := a0.out)
      refine ⟨k5.from _, KpB.app HV.out k2 k7 a3 k6, ⟨⟨_, k2, k3, k4⟩, HB.out.trans k6⟩, (k7.at HM.out (fun h => ?_)), by have := HE.out; have := HG.out; simp; omega⟩
      rcases h with h | h
      · omega
      · exact HO.out.ne HM.out (by decide) h
  case done =>
    rintro D ys W hD rfl ⟨⟨⟨v, hv, ho, hf⟩, hbel⟩, hm, hg⟩ hK
    have hc := hv.cell
    have HO := Kp.mk ho
    have HK := Kp.mk hK
    gi_wp2
    refine ⟨by simp, .inl ⟨_, _, rfl, run_takeDeferred HK.out, ?_⟩⟩
    refine ⟨_, results_tmp rfl _ _ _, v, rfl, ?_, hf, hbel.trans (belowK_b (w := w) (Nat.le_refl _) W D _ _ (by omega) HK.out rfl rfl)⟩
    have e : cutE most ys = ys := by unfold cutE; rw [if_neg (by omega)]
    rw [e]
    exact HO.out.putObj _ HK.out rfl
  case stop =>
    rintro D c pre W hD hSp ⟨⟨⟨v, hv, ho, hf⟩, hbel⟩, rfl, hlen2, hpos⟩ hK
    have hc := hv.cell
    have HO := Kp.mk ho
    have HK := Kp.mk hK
    gi_wp2
    refine ⟨by simp, .inl ⟨_, _, rfl, run_takeDeferred HK.out, ?_⟩⟩
    refine ⟨_, results_tmp rfl _ _ _, v, rfl, ?_, hf, hbel.trans (belowK_b (w := w) (Nat.le_refl _) W D _ _ (by omega) HK.out rfl rfl)⟩
    have hle := hSp.length_le
    have e : cutE most xs = pre := by
      unfold cutE
      rw [if_pos (by omega), ← hlen2]
      exact (List.prefix_iff_eq_take.1 hSp).symm
    rw [e]
    exact HO.out.putObj _ HK.out rfl
section
variable {w : World} {p a b : Nat} {ns : List En}
theorem Boxed.up {w' : World} {k : Nat} {t : TypeId} {v : Value} (h : Boxed w k t v) (hb : Below w.heap.size w w') : Boxed w' k t v := (hb.block k h.lt).trans h
theorem all_seq (n : Nat) (hn : 3 ≤ n) (h : IsN w p a b ns) (t : TypeId) (W : World) (B Bg : Nat) (hb : Below w.heap.size w W) (hG : Boxed W Bg 23 (.pointer (some ⟨p, 0, none⟩))) (hB : B < W.heap.size) (hBn : Bg ≠ B) (hno : ∀ k, ¬ OwnedAt W B t k) :
    SeqStopsK Fence.wide n Tryd.prog 30 #[.pointer (some ⟨Bg, 0, none⟩)] (fun x : En => vE x) (KpB w.heap.size B t) (fun ys => ys = ns) (fun pre => pre <+: ns) ns.length W := fun l J Jx W1 hW hJ _ hY h0 =>
  all1_in Fence.wide n trivial trivial rfl hn t W1 l Bg B w.heap.size p a b ns (fun W2 v l' ho hl hp => callsIn_wide.2 (sortS_any W2 v l' ns ho hl hp h.ok.rise)) J Jx ((h.below hb).below hW) (Boxed.up hG hW)
    (fun g hg => h.g.lt g hg) hBn (Nat.le_trans hb.size hW.size) (Nat.lt_of_lt_of_le hB hW.size) (fun k hk => hno k (owned_kept (hW.block B hB) k hk)) hJ hY h0
theorem all_nil_seq (n : Nat) (W : World) (Bg : Nat) (Kp0 : World → World → Prop) (hG : Boxed W Bg 23 (.pointer none)) :
    SeqStopsK Fence.wide n Tryd.prog 30 #[.pointer (some ⟨Bg, 0, none⟩)] (fun x : En => vE x) Kp0 (fun ys => ys = []) (fun pre => pre <+: []) 0 W := fun l J Jx W1 hW _ _ _ h0 =>
  all1_nil_in Fence.wide n trivial rfl W1 l Bg (Boxed.up hG hW) J Jx h0
/-- all -/
theorem all_any (h : IsN w p a b ns) (most : Nat) (hm : most ≤ 1000000) : Calls Tryd.prog 11 #[.pointer (some ⟨p, 0, none⟩), .int .i64 most] w (CollPost w (cutE most ns)) :=
  (callsIn_wide (n := 10)).1 (all_in Fence.wide 10 trivial trivial trivial rfl (by omega) w _ most hm ns (by have := h.ok.len; omega)
    (fun W B Bg hb hG hB hBn hno => all_seq 9 (by omega) h 26 W B Bg hb hG hB hBn hno))
theorem all_nil (w : World) (most : Nat) (hm : most ≤ 1000000) : Calls Tryd.prog 11 #[.pointer none, .int .i64 most] w (CollPost w []) := by
  have e : cutE most [] = [] := by unfold cutE; split <;> simp
  rw [← e]
  exact (callsIn_wide (n := 10)).1 (all_in Fence.wide 10 trivial trivial trivial rfl (by omega) w _ most hm [] (by simp)
    (fun W B Bg hb hG hB hBn hno => all_nil_seq 9 W Bg _ hG))
end
end Go.Proofs.YtmkfpaohlmejkaaDoor
