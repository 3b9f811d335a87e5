/- What Peers of package links tells: with whom a process is linked, rising; for a graph whose last number is below 10^18. -/
import Derived.Test.YtlbbheopoflmjaaOd
namespace Go.Proofs.Ytlbbheopoflmjaa
open Go.RowKit Go.Shelf
attribute [local go_sem] Oper.semAt_some

def srt (l : List Int) : List Int := l.mergeSort fun x y => decide (x ≤ y)
def nb1 (pid : Int) (x : Bd) : List Int := if 0 < x.r then [] else if x.a = pid then [x.b] else [x.a]
def nbs (pid : Int) (l : List Bd) : List Int := l.flatMap (nb1 pid)
theorem nbs_snoc (pid : Int) (l : List Bd) (x : Bd) : nbs pid (l ++ [x]) = nbs pid l ++ nb1 pid x := by simp [nbs]
theorem nbs_len (pid : Int) (l : List Bd) : (nbs pid l).length ≤ l.length := by
  induction l with
  | nil => simp [nbs]
  | cons x l ih =>
    have : nbs pid (x :: l) = nb1 pid x ++ nbs pid l := by simp [nbs]
    rw [this, List.length_append]
    have : (nb1 pid x).length ≤ 1 := by unfold nb1; split; simp; split <;> simp
    simp
    omega
def SortF (F : Fence) (n : Nat) : Prop := ∀ (w : World) (v : Value) (l : List Int), Own w 2 eI64 v l → l.length ≤ 1000000 →
  CallsIn F n Try.prog 44 #[v] w fun e w' => e = .returned (.tuple #[]) ∧ Own w' 2 eI64 v (srt l) ∧ Chg (fun x => v.ownBlock = some x) w w'
def NumPost (w : World) (xs : List Int) (e : Ending) (w' : World) : Prop := ∃ v, e = .returned v ∧ Own w' 2 eI64 v xs ∧ Fresh w v ∧ Below w.heap.size w w'

set_option maxRecDepth 100000 in
set_option maxHeartbeats 4000000 in
theorem peers_in (F : Fence) (n : Nat) (hf : F.fn 25) (hmk : F.fn 43) (h53 : F.fn 53) (h59 : F.fn 59) (h44 : F.fn 44) (hro : F.round = none) (hn : 4 ≤ n) (hsort : SortF F (n - 1)) (w : World) (p : Addr) (pid : Int) (xs : List Bd) (hlen : xs.length ≤ 1000000)
    (hseq : ∀ W B Bp Bg Bi, Below w.heap.size w W → Boxed W Bp 2 (.int .i64 pid) → Boxed W Bg 24 (.pointer (some p)) → Boxed W Bi 83 (.func (.func 55) #[] #[.pointer (some ⟨Bp, 0, none⟩)]) → B < W.heap.size → (∀ g, (g = Bp ∨ g = Bg ∨ g = Bi) → g ≠ B) → (∀ k, ¬ OwnedAt W B 50 k) →
      SeqStopsK F (n - 1) Try.prog 59 #[.pointer (some ⟨Bg, 0, none⟩), .pointer (some ⟨Bi, 0, none⟩)] (fun x : Bd => #[vB x]) (KpB w.heap.size B 50) (fun ys => ys = xs) (fun pre => pre <+: xs) xs.length W) :
    CallsIn F n Try.prog 25 #[.pointer (some p), .int .i64 pid] w (NumPost w (srt (nbs pid xs))) := by
  have h1 : 1 ≤ n := by omega
  have HSEQ := Kp.mk hseq
  have HSO := Kp.mk hsort
  clear hseq hsort
  refine callsIn_of_wp_marks Try.func25 rfl hf ?_ hro
  simp only [Try.ntmps25, List.size_toArray, List.length_cons, List.length_nil, Nat.reduceAdd, Nat.reduceSub, Array.replicate_succ, Array.replicate_zero, List.push_toArray, List.append_toArray, List.nil_append, List.cons_append]
  gi_wp2_with (gi_at_call 43; refine (mkOf_in F (n - 1) hmk h53 hro (by omega) _ _ _).mono ?_; rintro e w' ⟨rfl, rfl⟩)
  obtain ⟨W0, hW0⟩ : ∃ W0, W0 = allocN w [.cells #[.int .i64 pid] 2, .cells #[.slice none 0 0] 50, .cells #[.int .i64 pid] 2, .cells #[.pointer (some p)] 24, .cells #[.func (.func 55) #[] #[.pointer (some ⟨w.heap.size + 1 + 1, 0, none⟩)]] 83] := ⟨_, rfl⟩
  have hsz : W0.heap.size = w.heap.size + 5 := by rw [hW0]; exact allocN_size _ _
  have hB0 : Below w.heap.size w W0 := by rw [hW0]; exact allocN_below _ _
  have bM : Boxed W0 w.heap.size 2 (.int .i64 pid) := by rw [hW0]; exact allocN_at _ _ 0 _ rfl
  have bL : Boxed W0 (w.heap.size + 1) 50 (.slice none 0 0) := by rw [hW0]; exact allocN_at _ _ 1 _ rfl
  have bP : Boxed W0 (w.heap.size + 1 + 1) 2 (.int .i64 pid) := by rw [hW0]; exact allocN_at _ _ 2 _ rfl
  have bG : Boxed W0 (w.heap.size + 1 + 1 + 1) 24 (.pointer (some p)) := by rw [hW0]; exact allocN_at _ _ 3 _ rfl
  have bI : Boxed W0 (w.heap.size + 1 + 1 + 1 + 1) 83 (.func (.func 55) #[] #[.pointer (some ⟨w.heap.size + 1 + 1, 0, none⟩)]) := by rw [hW0]; exact allocN_at _ _ 4 _ rfl
  have hW1 : (((((w.alloc (.cells #[.int .i64 pid] 2)).alloc (.cells #[.slice none 0 0] 50)).alloc (.cells #[.int .i64 pid] 2)).alloc (.cells #[.pointer (some p)] 24)).alloc (.cells #[.func (.func 55) #[] #[.pointer (some ⟨w.heap.size + 1 + 1, 0, none⟩)]] 83)) = W0 := by rw [hW0]; rfl
  rw [hW1]
  have hno : ∀ k, ¬ OwnedAt W0 (w.heap.size + 1) 50 k := by
    rintro k ⟨v, hv, hk⟩
    have e := hv.cell.symm.trans bL.cell
    cases e
    cases hk
  clear hW1
  obtain ⟨wA, hwA⟩ : ∃ wA, wA = w.alloc (.cells #[.int .i64 pid] 2) := ⟨_, rfl⟩
  have hA : Below w.heap.size w wA := by rw [hwA]; exact (Below.refl _ _).alloc (Nat.le_refl _) _
  have hAs : wA.heap.size = w.heap.size + 1 := by rw [hwA]; simp
  have hBA : Below wA.heap.size wA W0 := by rw [hW0, hwA]; exact allocN_below _ [.cells #[.slice none 0 0] 50, .cells #[.int .i64 pid] 2, .cells #[.pointer (some p)] 24, .cells #[.func (.func 55) #[] #[.pointer (some ⟨w.heap.size + 1 + 1, 0, none⟩)]] 83]
  clear hW0 hwA
  refine wpIn_rangeFunc_ownH hro h1 (gf := 59) (lb := #[.pointer (some ⟨w.heap.size + 1 + 1 + 1, 0, none⟩), .pointer (some ⟨w.heap.size + 1 + 1 + 1 + 1, 0, none⟩)]) rfl h59 (enters_of Try.func59 (by kernel_rfl) rfl)
    (HSEQ.out W0 (w.heap.size + 1) (w.heap.size + 1 + 1) (w.heap.size + 1 + 1 + 1) (w.heap.size + 1 + 1 + 1 + 1) hB0 bP bG bI (by omega) (by omega) hno) KpB.trans (KpB.turn (by omega) (by omega)) (Below.refl _ _) (fun _ => rfl)
    (fun pre W => Coll wA 2 eI64 50 (w.heap.size + 1) (nbs pid) pre W ∧ Boxed W w.heap.size 2 (.int .i64 pid))
    (fun _ _ _ => False)
    (OwnFrom.and (coll_own (by omega)) boxed_from)
    (fun c s A B row h _ _ => h)
    ⟨⟨⟨_, bL, Own.nil _ _ _, Fresh.nil _ _ _⟩, hBA⟩, bM⟩
    (fun x a' V => ∃ Bx, V.heap[Bx]? = some (.cells #[.int .i64 x.a, .int .i64 x.b, .int .i64 x.r] 48 (0, 0)) ∧ a' = { tmps := #[.pointer (some p), .int .i64 pid, undef, .pointer (some ⟨w.heap.size, 0, none⟩), .slice none 0 0, .pointer (some ⟨w.heap.size + 1, 0, none⟩), .pointer (some ⟨Bx, 0, none⟩), .pointer (some p), .bool false, .pointer (some p), .int .i64 pid, .func (.func 59) #[] #[.pointer (some ⟨w.heap.size + 1 + 1 + 1, 0, none⟩), .pointer (some ⟨w.heap.size + 1 + 1 + 1 + 1, 0, none⟩)], .agg #[.int .i64 x.a, .int .i64 x.b, .int .i64 x.r], undef, undef, undef, undef, undef, undef, undef, undef, undef, undef, undef, undef, undef, undef, undef, undef, undef, undef, undef, undef, undef, undef], defers := [] })
    (fun x a' s X1 X2 row hs hg hr => by
      obtain ⟨Bx, hb, ha⟩ := hs
      refine ⟨Bx, (hg.block _ (lt_of_block hb) (fun e => ?_)).trans hb, ha⟩
      obtain ⟨_, o, ho, hc⟩ := hr Bx e.symm
      rw [hb] at ho; cases ho; cases hc)
    ?assign ?body ?done ?stop
  case assign =>
    rintro l' pre x V K ⟨⟨⟨v, hv, ho, hf⟩, hbel⟩, hm⟩ hK
    have hvl := hv.lt
    have hnA : wA.heap.size ≤ V.heap.size := hbel.size
    have hn0 : w.heap.size ≤ V.heap.size := by omega
    have hb1 : Below V.heap.size V (V.alloc (.cells #[.int .i64 x.a, .int .i64 x.b, .int .i64 x.r] 48)) := (Below.refl _ _).alloc (Nat.le_refl _) _
    have HKK := Kp.mk (hK _ _ ((KeepsOthers.alloc V (.cells #[.int .i64 x.a, .int .i64 x.b, .int .i64 x.r] 48)).from _) (KpB.new hb1 hvl hn0) ⟨⟨⟨v, Boxed.alloc hv _, ho.alloc _, hf⟩, hbel.trans (hb1.mono hnA)⟩, Boxed.alloc hm _⟩ ⟨V.heap.size, blk_new V _, rfl⟩)
    clear hK hv ho hf hbel hm
    unfold vB
    gi_wp2
    exact HKK.out
  case body =>
    rintro l' pre x a' W hl' hr0 ⟨⟨⟨v, hv, ho, hf⟩, hbel⟩, hm⟩ ⟨Bx, hbx, rfl⟩ hlt
    clear bM bL bP bG bI hB0 hBA hno
    obtain ⟨A, c, hvs, _⟩ := ho.shape
    subst hvs
    have hc := hv.cell
    have hcm := hm.cell
    have hb0' := blk_c hbx 0
    have hb1' := blk_c hbx 1
    have hb2' := blk_c hbx 2
    have hnl := nbs_len pid pre
    have hlt' : pre.length < 1000000 := by omega
    obtain ⟨m, hmm⟩ : ∃ m, m = (nbs pid pre).length := ⟨_, rfl⟩
    have hml : m < 1000000 := by omega
    rw [← hmm] at ho hv hc hf
    have HMM := Kp.mk hmm
    have HV := Kp.mk hv
    have HO := Kp.mk ho
    have HF := Kp.mk hf
    have HB := Kp.mk hbel
    have HM := Kp.mk hm
    have HBX := Kp.mk hbx
    have HSN := Kp.mk (nbs_snoc pid pre x)
    have ho' : Own W 2 eI64 (.slice A m c) (nbs pid pre) := ho
    have hw : wA.heap.size ≤ W.heap.size := hbel.size
    have hlen2 : (nbs pid pre).length < 1000000 := by omega
    clear hv ho hf hbel hm hr0 hbx hnl hmm
    have hwne : w.heap.size ≠ w.heap.size + 1 := by omega
    by_cases h0 : 0 < x.r
    · have hd : decide (x.r > 0) = true := by simpa using h0
      have HE : Kp (nbs pid (pre ++ [x]) = nbs pid pre) := ⟨by rw [HSN.out]; unfold nb1; rw [if_pos h0]; simp⟩
      gi_wp2
      exact ⟨KeepsFrom.refl _ _, KpB.refl _, ⟨⟨_, HV.out, by rw [HE.out]; exact HO.out, HF.out⟩, HB.out⟩, HM.out⟩
    · have hd : decide (x.r > 0) = false := by simpa using h0
      by_cases ha : x.a = pid
      · have HE : Kp (nbs pid (pre ++ [x]) = nbs pid pre ++ [x.b]) := ⟨by rw [HSN.out]; unfold nb1; rw [if_neg h0, if_pos ha]⟩
        have hd2 : (x.a == pid) = true := by simpa using ha
        clear ha
        gi_wp2_with (gi_at_builtin; refine app1_evIn T50 x.b rfl _ _ rfl ho' rfl rfl rfl (by simp) rfl (by omega) (by omega) ?_; intro A' n' c' w1 a0 a1 a2 a3; obtain ⟨k1, k2, k3, k4, k5, k6, k7⟩ := coll_app HV.out (by decide) HO.out HF.out HB.out (by omega) a1 a2 a3; have hc1 := k1.cell; have hf1 := k1.frozen)
        refine ⟨k5.from _, KpB.app HV.out k2 k7 a3 (k6.mono (by omega)), ⟨⟨_, k2, by rw [HE.out]; exact k3, k4⟩, HB.out.trans k6⟩, (k7.at HM.out (fun h => ?_))⟩
        rcases h with h | h
        · omega
        · have := HF.out _ h; omega
      · have HE : Kp (nbs pid (pre ++ [x]) = nbs pid pre ++ [x.a]) := ⟨by rw [HSN.out]; unfold nb1; rw [if_neg h0, if_neg ha]⟩
        have hd2 : (x.a == pid) = false := by simpa using ha
        clear ha
        gi_wp2_with (gi_at_builtin; refine app1_evIn T50 x.a rfl _ _ rfl ho' rfl rfl rfl (by simp) rfl (by omega) (by omega) ?_; intro A' n' c' w1 a0 a1 a2 a3; obtain ⟨k1, k2, k3, k4, k5, k6, k7⟩ := coll_app HV.out (by decide) HO.out HF.out HB.out (by omega) a1 a2 a3; have hc1 := k1.cell; have hf1 := k1.frozen)
        refine ⟨k5.from _, KpB.app HV.out k2 k7 a3 (k6.mono (by omega)), ⟨⟨_, k2, by rw [HE.out]; exact k3, k4⟩, HB.out.trans k6⟩, (k7.at HM.out (fun h => ?_))⟩
        rcases h with h | h
        · omega
        · have := HF.out _ h; omega
  case done =>
    rintro D ys W hD rfl ⟨⟨⟨v, hv, ho, hf⟩, hbel⟩, hm⟩ hK
    have hc := hv.cell
    have HO := Kp.mk ho
    have HK := Kp.mk hK
    have HV := Kp.mk hv
    gi_wp2_with (gi_at_call 44; refine (HSO.out _ _ _ HO.out (by have := nbs_len pid ys; omega)).mono ?_; rintro e w3 ⟨rfl, ho3, hc3⟩; have hc4 := (hc3.at HV.out (HO.out.ne HV.out (by decide))); have hc5 := Boxed.cell hc4)
    have hk3 := hc3.at HK.out (fun hg => by obtain ⟨cur, hcur⟩ := HO.out.blk' hg; rw [HK.out] at hcur; cases hcur)
    refine ⟨by simp, .inl ⟨_, _, rfl, run_takeDeferred hk3, ?_⟩⟩
    refine ⟨_, results_tmp rfl _ _ _, v, rfl, ?_, fun g hg => by have := hf g hg; omega, (chg_below (hA.trans (hbel.mono (by omega))) hc3 (fun g hg => by have := hf g hg; omega) (by have := hbel.size; omega)).trans (belowK_b (w := w) (Nat.le_refl _) w3 D _ _ (by omega) hk3 rfl rfl)⟩
    exact ho3.putObj _ hk3 rfl
  case stop =>
    rintro D c pre W hD hSp hF hK
    exact hF.elim
theorem sortF_wide (hs : SortC) (n : Nat) : SortF Fence.wide n := fun w v l h hl => callsIn_wide.2 (hs w v l h hl)
/-- Peers -/
theorem peers_any (hs : SortC) {w : World} {p bm lm rm : Nat} {ns : List NB} {last : Int} (h : IsG w p bm lm rm ns last) (hla : last ≤ 1000000000000000000) (pid : Int) :
    Calls Try.prog 25 #[.pointer (some ⟨p, 0, none⟩), .int .i64 pid] w (NumPost w (srt (nbs pid (sel (isOf pid) ns)))) :=
  (callsIn_wide (n := 10)).1 (peers_in Fence.wide 10 trivial trivial trivial trivial trivial rfl (by omega) (sortF_wide hs _) w _ pid _ (by have := sel_len (isOf pid) ns; have := h.ok.len; omega)
    (fun W B Bp Bg Bi hb hP hG hI hB hBn hno => of_seq hs 9 (by omega) h hla pid 50 W B Bp Bg Bi hb hP hG hI hB hBn hno))
set_option maxHeartbeats 1000000 in
theorem peers_nil (w : World) (pid : Int) : Calls Try.prog 25 #[.pointer none, .int .i64 pid] w (NumPost w []) := by
  go_enter Try.func25, Try.ntmps25
  go_wp2
  go_ret
  exact ⟨_, rfl, Own.nil _ _ _, Fresh.nil _ _ _, (Below.refl _ _).alloc (Nat.le_refl _) _⟩
end Go.Proofs.Ytlbbheopoflmjaa
