/- What the iterators of package links tell: the bonds of which something holds, in order; for a graph that stays; no further condition. -/
import Derived.Test.YtlbbheopoflmjaaOa
import Derived.Test.YtlbbheopoflmjaaRc
namespace Go.Proofs.Ytlbbheopoflmjaa
open Go.RowKit Go.Shelf
attribute [local go_sem] Oper.semAt_some

def sel (f : Bd → Bool) (ns : List NB) : List Bd := (ns.map (·.2)).filter f
theorem sel_snoc (f : Bd → Bool) (ns : List NB) (k : Nat) (h : k < ns.length) : sel f (ns.take (k + 1)) = if f ns[k].2 = true then sel f (ns.take k) ++ [ns[k].2] else sel f (ns.take k) := by
  unfold sel
  rw [List.take_succ_eq_append_getElem h, List.map_append, List.filter_append]
  by_cases h1 : f ns[k].2 = true
  · simp [h1]
  · simp [h1]
theorem sel_pre (f : Bd → Bool) (ns : List NB) (k : Nat) : sel f (ns.take k) <+: sel f ns := ((List.take_prefix k ns).map _).filter _
theorem sel_len (f : Bd → Bool) (ns : List NB) : (sel f ns).length ≤ ns.length := by
  unfold sel; have := List.length_filter_le f (ns.map (·.2)); simpa using this
def isOf (pid : Int) (x : Bd) : Bool := decide (x.a = pid ∨ x.b = pid)
def isAll (_ : Bd) : Bool := true
theorem KpB.new {n0 B : Nat} {t : TypeId} {W W' : World} (h : Below W.heap.size W W') (hB : B < W.heap.size) (hn : n0 ≤ W.heap.size) : KpB n0 B t W W' :=
  ⟨h.size, fun k _ hk _ _ _ => (h.block k (lt_of_block hk)).trans hk, fun k hk => .inl (owned_kept (h.block B hB) k hk), h.mono hn⟩
theorem KpB.own {n0 B : Nat} {t : TypeId} {A C : World} {α : Type} {T : TypeId} {E : El α} {v : Value} {l : List α} (h : KpB n0 B t A C) (ho : Own A T E v l) (hB : ∀ g, v.ownBlock = some g → g ≠ B) (hO : ∀ g, v.ownBlock = some g → ¬ OwnedAt A B t g) : Own C T E v l := by
  refine ⟨ho.row.1, ?_⟩
  rcases ho.row.2 with h0 | ⟨g, cap, cur, rfl, hb, hg, rest⟩
  · exact .inl h0
  · exact .inr ⟨g, cap, cur, rfl, hb, h.cells g _ hg rfl (hB g rfl) (hO g rfl), rest⟩

theorem grown_below {W W' : World} (h : Below W.heap.size W W') : W.grownBy W' none := ⟨h.os, h.tape, h.output, h.size, fun k hk _ => h.block k hk⟩
theorem G3.heap {w w' : World} {p bm lm rm : Nat} {last : Int} {eb : List (Int × Value)} {el : List ((Int × Int) × Value)} {er : List (Int × Value)} (h : G3 w p bm lm rm last eb el er) (hb : ∀ g, FG p bm lm rm g → w'.heap[g]? = w.heap[g]?) : G3 w' p bm lm rm last eb el er :=
  ⟨(hb p (.inl rfl)).trans h.blk, h.mb.heap (hb bm (.inr (.inl rfl))), h.ml.heap (hb lm (.inr (.inr (.inl rfl)))), h.mr.heap (hb rm (.inr (.inr (.inr rfl)))), h.ne⟩

set_option maxHeartbeats 1000000 in
theorem of1_in (F : Fence) (n : Nat) (h55 : F.fn 55) (hro : F.round = none) (w : World) (x : Bd) (Bp : Nat) (pid : Int) (hc : w.cell? ⟨Bp, 0, none⟩ = some (.int .i64 pid)) :
    CallsIn F n Try.prog 55 #[.agg #[.int .i64 x.a, .int .i64 x.b, .int .i64 x.r], .pointer (some ⟨Bp, 0, none⟩)] w fun e w' => e = .returned (.bool (isOf pid x)) ∧ Below w.heap.size w w' := by
  have hb := World.block_lt_of_cell? w _ hc
  by_cases h1 : x.a = pid
  · have e : isOf pid x = true := decide_eq_true (.inl h1)
    have hd : (x.a == pid) = true := by simpa using h1
    rw [e]
    have E := Kp.mk e
    clear e h1
    refine callsIn_of_wp Try.func55 rfl h55 ?_ hro
    simp only [Try.ntmps55, List.size_toArray, List.length_cons, List.length_nil, Nat.reduceAdd, Nat.reduceSub, Array.replicate_succ, Array.replicate_zero, List.push_toArray, List.append_toArray, List.nil_append, List.cons_append]
    gi_wp2
    go_ret
    exact ⟨rfl, (Below.refl _ _).alloc (Nat.le_refl _) _⟩
  · have hd : (x.a == pid) = false := by simpa using h1
    by_cases h2 : x.b = pid
    · have e : isOf pid x = true := decide_eq_true (.inr h2)
      have hd2 : (x.b == pid) = true := by simpa using h2
      rw [e]
      clear e h1 h2
      refine callsIn_of_wp Try.func55 rfl h55 ?_ hro
      simp only [Try.ntmps55, List.size_toArray, List.length_cons, List.length_nil, Nat.reduceAdd, Nat.reduceSub, Array.replicate_succ, Array.replicate_zero, List.push_toArray, List.append_toArray, List.nil_append, List.cons_append]
      gi_wp2
      go_ret
      exact ⟨rfl, (Below.refl _ _).alloc (Nat.le_refl _) _⟩
    · have e : isOf pid x = false := decide_eq_false (fun h => h.elim h1 h2)
      have hd2 : (x.b == pid) = false := by simpa using h2
      rw [e]
      clear e h1 h2
      refine callsIn_of_wp Try.func55 rfl h55 ?_ hro
      simp only [Try.ntmps55, List.size_toArray, List.length_cons, List.length_nil, Nat.reduceAdd, Nat.reduceSub, Array.replicate_succ, Array.replicate_zero, List.push_toArray, List.append_toArray, List.nil_append, List.cons_append]
      gi_wp2
      go_ret
      exact ⟨rfl, (Below.refl _ _).alloc (Nat.le_refl _) _⟩
set_option maxHeartbeats 1000000 in
theorem all1_in (F : Fence) (n : Nat) (h54 : F.fn 54) (hro : F.round = none) (w : World) (x : Bd) :
    CallsIn F n Try.prog 54 #[.agg #[.int .i64 x.a, .int .i64 x.b, .int .i64 x.r]] w fun e w' => e = .returned (.bool (isAll x)) ∧ Below w.heap.size w w' := by
  refine callsIn_of_wp Try.func54 rfl h54 ?_ hro
  simp only [Try.ntmps54, List.size_toArray, List.length_cons, List.length_nil, Nat.reduceAdd, Nat.reduceSub, Array.replicate_succ, Array.replicate_zero, List.push_toArray, List.append_toArray, List.nil_append, List.cons_append]
  gi_wp2
  go_ret
  exact ⟨rfl, (Below.refl _ _).alloc (Nat.le_refl _) _⟩
set_option maxRecDepth 100000 in
set_option maxHeartbeats 4000000 in
theorem some_of_in (F : Fence) (n : Nat) (h59 : F.fn 59) (h41 : F.fn 41) (h55 : F.fn 55) (hro : F.round = none) (hn : 3 ≤ n) (t : TypeId) (W : World) (l Bg Bi B n0 p bm lm rm : Nat) (ns : List NB) (last : Int) (Bp : Nat) (pid : Int)
    (hord : CallsIn F (n - 1) Try.prog 41 #[.pointer (some ⟨p, 0, none⟩)] W (OrderPost W ns)) (J Jx : List Bd → World → Prop)
    (hg : IsG W p bm lm rm ns last) (hBg : Boxed W Bg 24 (.pointer (some ⟨p, 0, none⟩))) (hBi : Boxed W Bi 83 (.func (.func 55) #[] #[.pointer (some ⟨Bp, 0, none⟩)]))
    (hBp : Boxed W Bp 2 (.int .i64 pid))
    (hn0 : ∀ g, FG p bm lm rm g → g < n0) (hBn : ∀ g, (g = Bg ∨ g = Bi ∨ g = Bp) → g ≠ B) (hn1 : n0 ≤ W.heap.size) (hla : last ≤ 1000000000000000000)
    (hB : B < W.heap.size) (hno : ∀ k, ¬ OwnedAt W B t k) (hJ : AbidesFrom W.heap.size J)
    (hY : ∀ pre x W1, J pre W1 → pre.length < (sel (isOf pid) ns).length → YieldAt F (n - 1) Try.prog l #[vB x] W1 fun e W' => (e = .returned (.bool true) ∧ J (pre ++ [x]) W' ∧ KpB n0 B t W1 W') ∨ (e = .returned (.bool false) ∧ Jx (pre ++ [x]) W')) (h0 : J [] W) :
    CallsIn F n Try.prog 59 #[.func (.yield l) #[] #[], .pointer (some ⟨Bg, 0, none⟩), .pointer (some ⟨Bi, 0, none⟩)] W fun e W' => (∃ v, e = .returned v) ∧ ((∃ ys, ys = sel (isOf pid) ns ∧ J ys W') ∨ (∃ pre, pre <+: sel (isOf pid) ns ∧ Jx pre W')) := by
  have h1 : 1 ≤ n := by omega
  have hgl := hBg.lt
  have cG0 := hBg.cell
  have HBN := Kp.mk hBn
  have HORD := Kp.mk hord
  have HG := Kp.mk hg
  have HJ := Kp.mk hJ
  have HY := Kp.mk hY
  have H0 := Kp.mk h0
  have HNO := Kp.mk hno
  have HN0 := Kp.mk hn0
  have HBG := Kp.mk hBg
  have HBI := Kp.mk hBi
  have HBP := Kp.mk hBp
  have hlen : ns.length ≤ 1024 := hg.ok.len
  clear hord hg hJ hY h0 hno hn0 hBn hBg hBi hBp
  refine callsIn_of_wp Try.func59 rfl h59 ?_ hro
  simp only [Try.ntmps59, List.size_toArray, List.length_cons, List.length_nil, Nat.reduceAdd, Nat.reduceSub, Array.replicate_succ, Array.replicate_zero, List.push_toArray, List.append_toArray, List.nil_append, List.cons_append]
  gi_wp2_with (gi_at_call 41; refine HORD.out.mono ?_; rintro e w1 ⟨v, rfl, ho, hf, hb⟩; obtain ⟨A, c, hv, hcv, _, hs0, hs1⟩ := ho.shape; subst hv)
  rw [nums_len]
  rw [nums_len] at hcv
  obtain ⟨m, hm⟩ : ∃ m, m = ns.length := ⟨_, rfl⟩
  rw [nums_len, ← hm] at ho hf
  rw [← hm] at hlen hcv ⊢
  have HO := Kp.mk ho
  have HF := Kp.mk hf
  have HB1 := Kp.mk hb
  have HM := Kp.mk hm
  have HS0 := Kp.mk hs0
  have HS1 := Kp.mk hs1
  have hw1 : W.heap.size ≤ w1.heap.size := hb.size
  have hno1 : Kp (∀ k, ¬ OwnedAt w1 B t k) := ⟨fun k hk => HNO.out k (owned_kept (hb.block B hB) k hk)⟩
  have hj1 : Kp (J [] w1) := ⟨HJ.out [] W w1 none H0.out (grown_below hb) (fun r e => by cases e)⟩
  clear ho hf hb hm hs0 hs1 hcv
  gi_wp2
  gi_loopw [10] (fun i wr => ∃ (k : Nat), k ≤ m ∧ i = .int .i64 k ∧ Kp (J (sel (isOf pid) (ns.take k)) wr) ∧ Kp (KpB n0 B t w1 wr)) (fun i _ => m - (intOf i).toNat)
  case atStart => exact ⟨0, Nat.zero_le _, rfl, hj1, ⟨KpB.refl _⟩⟩
  case round =>
    obtain ⟨k, hk, rfl, HJK, HKB⟩ := hrel
    by_cases hlt : k < m
    · have hkn : k < ns.length := by rw [← HM.out]; exact hlt
      obtain ⟨g, rfl⟩ : ∃ g, A = some ⟨g, 0, none⟩ := by
        cases A with
        | none => have h1 := (HS0.out rfl).1; have := nums_len ns; rw [h1] at this; simp at this; omega
        | some x => obtain ⟨g, rfl⟩ := HS1.out x rfl; exact ⟨g, rfl⟩
      have hgw : W.heap.size ≤ g := HF.out g rfl
      have ho2 : Own wr 2 eI64 (.slice (some ⟨g, 0, none⟩) m c) (nums ns) := HKB.out.own HO.out (fun g' hg' => by obtain rfl : g = g' := (by simpa [Value.ownBlock] using hg'); omega) (fun g' _ => hno1.out g')
      obtain ⟨nx, hnx⟩ : ∃ nx, nx = ns[k] := ⟨_, rfl⟩
      have hq : wr.cell? ⟨g, k, none⟩ = some (.int .i64 nx.1) := by
        have h1 := ho2.elem k 0 (by rw [nums_len]; exact hkn) (by decide)
        rw [hnx]; simpa [eI64, nums] using h1
      have hbw : Below n0 W wr := (HB1.out.mono hn1).trans HKB.out.below
      have hgr : IsG wr p bm lm rm ns last := by
        exact ⟨HG.out.g.heap (fun g hg => hbw.block g (HN0.out g hg)), HG.out.ok⟩
      have hsz : W.heap.size ≤ wr.heap.size := hbw.size
      have hlg : n0 ≤ wr.heap.size := Nat.le_trans hn1 hsz
      have keep : ∀ {k : Nat} {T : TypeId} {v : Value}, Boxed W k T v → k ≠ B → Boxed wr k T v := fun {k T v} hb hk =>
        HKB.out.cells k _ ((HB1.out.block k hb.lt).trans hb) rfl hk (hno1.out k)
      have bG := keep HBG.out (HBN.out Bg (.inl rfl))
      have bI := keep HBI.out (HBN.out Bi (.inr (.inl rfl)))
      have hgB := bG.lt
      have hgI := bI.lt
      have cG := bG.cell
      have cI := bI.cell
      have bP := keep HBP.out (HBN.out Bp (.inr (.inr rfl)))
      have hgP := bP.lt
      have cP := bP.cell
      clear bP
      have cp := hgr.g.c0
      have lp := lt_of_block hgr.g.blk
      have hmem : nx ∈ ns := by rw [hnx]; exact List.getElem_mem hkn
      obtain ⟨nn, x⟩ := nx
      have hgd := hgr.ok.good _ hmem
      have htp := hgr.ok.top _ hmem
      simp only at hq hgd htp
      have okn : K2.ok nn := ok2 nn (by omega) (by omega)
      have hl0 : (Instr.lookup 61 (.map (some bm)) (.int .i64 nn) false).run Try.prog wr = .ok (.agg #[.int .i64 x.a, .int .i64 x.b, .int .i64 x.r]) wr := by
        have h1 := hgr.g.mb.get Try.underlying61 (Try.zeroValue48 wr) nn okn
        rw [(look_bonds hgr.ok).2 ⟨x, hmem, rfl⟩] at h1
        exact h1
      have hst := sel_snoc (isOf pid) ns k hkn
      rw [← hnx] at hst
      simp only at hst
      have k0 : (0 : Int) ≤ (k : Int) := by omega
      have k1 : (k : Int) < (m : Int) := by omega
      obtain ⟨Wa, hWa⟩ : ∃ Wa, Wa = wr.alloc (.cells #[.int .i64 x.a, .int .i64 x.b, .int .i64 x.r] 48) := ⟨_, rfl⟩
      have hba : Below wr.heap.size wr Wa := by rw [hWa]; exact (Below.refl _ _).alloc (Nat.le_refl _) _
      have xa : Wa.heap[wr.heap.size]? = some (.cells #[.int .i64 x.a, .int .i64 x.b, .int .i64 x.r] 48 (0, 0)) := by rw [hWa]; exact blk_new wr _
      have cIa := (hba.cell (p := ⟨Bi, 0, none⟩) (by show Bi < wr.heap.size; omega)).trans cI
      rw [hWa] at cIa
      have HBW := Kp.mk hbw
      have HST := Kp.mk hst
      have HBA := Kp.mk hba
      have XA := Kp.mk xa
      have HWA := Kp.mk hWa
      have cPa := (HBA.out.cell (p := ⟨Bp, 0, none⟩) (by show Bp < wr.heap.size; omega)).trans cP
      rw [HWA.out] at cPa
      have HPL := HKB.out.size
      have hin : 1 ≤ n - 1 := by omega
      clear keep bG bI ho2 hbw hgr hmem hgd htp okn hst hnx hba xa hWa
      cases hfx : (isOf pid) x
      · rw [hfx, if_neg (by decide)] at HST
        gi_wp2_with (gi_at_call 55; refine (of1_in F (n - 1) h55 hro _ x Bp pid cPa).mono ?_; rintro e w5 ⟨rfl, hb5⟩; rw [hfx]; rw [← HWA.out] at hb5; have HB5 := Kp.mk hb5; clear hb5)
        rename_i K9 hK9 r9 h9 w9 e9
        refine ⟨(fun f hf => by cases hf), hK9 _ _ ?_⟩
        clear e9 hK9
        gi_wp2
        go_roundw
        case rel =>
          have hb5 : Below wr.heap.size wr w5 := bstep HBA.out HBA.out.size HB5.out
          exact ⟨k + 1, by omega, by go_num, ⟨by rw [HST.out]; exact HJ.out _ wr w5 none HJK.out (grown_below hb5) (fun r e => by cases e)⟩, ⟨HKB.out.trans (KpB.new hb5 (by omega) hlg)⟩⟩
        case measure => simp [intOf]; omega
      · rw [hfx, if_pos rfl] at HST
        have hll : Kp ((sel (isOf pid) (ns.take k)).length < (sel (isOf pid) ns).length) := ⟨by
          have h2 := (sel_pre (isOf pid) ns (k + 1)).length_le
          rw [HST.out] at h2
          simp at h2
          omega⟩
        gi_wp2_with (gi_at_call 55; refine (of1_in F (n - 1) h55 hro _ x Bp pid cPa).mono ?_; rintro e w5 ⟨rfl, hb5⟩; rw [hfx]; rw [← HWA.out] at hb5; have HB5 := Kp.mk (bstep HBA.out HBA.out.size hb5); have hJ5 : J (sel (isOf pid) (ns.take k)) w5 := HJ.out _ wr w5 none HJK.out (grown_below HB5.out) (fun r e => by cases e); obtain ⟨fn, tmps, assign, body, hy, hR⟩ := HY.out _ x w5 hJ5 hll.out; unfold vB at hy; have x5 := (hb5.block _ (lt_of_block XA.out)).trans XA.out; have b0 := blk_c x5 0; have b1 := blk_c x5 1; have b2 := blk_c x5 2; clear hb5 hJ5 x5)
        rename_i K9 hK9
        refine hR.mono ?_
        rintro e W3 (⟨rfl, hJ3, hk3⟩ | ⟨rfl, hJx3⟩)
        · have HJ3 := Kp.mk hJ3
          have HK3 := Kp.mk hk3
          clear hJ3 hk3 hR hy b0 b1 b2
          refine hK9 _ _ ?_
          clear hK9
          gi_wp2
          go_roundw
          case rel => exact ⟨k + 1, by omega, by go_num, ⟨by rw [HST.out]; exact HJ3.out⟩, ⟨(HKB.out.trans (KpB.new HB5.out (by omega) hlg)).trans HK3.out⟩⟩
          case measure => simp [intOf]; omega
        · have HJX := Kp.mk hJx3
          clear hJx3 hR hy b0 b1 b2
          refine hK9 _ _ ?_
          clear hK9
          gi_wp2
          refine bodyPost_ret (results_none rfl _ _ _) rfl ?_
          exact ⟨⟨_, rfl⟩, .inr ⟨_, by rw [← HST.out]; exact sel_pre _ _ _, HJX.out⟩⟩
    · obtain rfl : k = m := by omega
      have hjj := HJK.out
      rw [List.take_of_length_le (by rw [HM.out]; exact Nat.le_refl _)] at hjj
      have HJJ := Kp.mk hjj
      clear hjj
      gi_wp2
      go_end0
      exact ⟨⟨_, rfl⟩, .inl ⟨_, rfl, HJJ.out⟩⟩
set_option maxRecDepth 100000 in
set_option maxHeartbeats 4000000 in
theorem some_all_in (F : Fence) (n : Nat) (h59 : F.fn 59) (h41 : F.fn 41) (h54 : F.fn 54) (hro : F.round = none) (hn : 3 ≤ n) (t : TypeId) (W : World) (l Bg Bi B n0 p bm lm rm : Nat) (ns : List NB) (last : Int)
    (hord : CallsIn F (n - 1) Try.prog 41 #[.pointer (some ⟨p, 0, none⟩)] W (OrderPost W ns)) (J Jx : List Bd → World → Prop)
    (hg : IsG W p bm lm rm ns last) (hBg : Boxed W Bg 24 (.pointer (some ⟨p, 0, none⟩))) (hBi : Boxed W Bi 83 (.func (.func 54) #[] #[]))
    (hn0 : ∀ g, FG p bm lm rm g → g < n0) (hBn : ∀ g, (g = Bg ∨ g = Bi) → g ≠ B) (hn1 : n0 ≤ W.heap.size) (hla : last ≤ 1000000000000000000)
    (hB : B < W.heap.size) (hno : ∀ k, ¬ OwnedAt W B t k) (hJ : AbidesFrom W.heap.size J)
    (hY : ∀ pre x W1, J pre W1 → pre.length < (sel (isAll) ns).length → YieldAt F (n - 1) Try.prog l #[vB x] W1 fun e W' => (e = .returned (.bool true) ∧ J (pre ++ [x]) W' ∧ KpB n0 B t W1 W') ∨ (e = .returned (.bool false) ∧ Jx (pre ++ [x]) W')) (h0 : J [] W) :
    CallsIn F n Try.prog 59 #[.func (.yield l) #[] #[], .pointer (some ⟨Bg, 0, none⟩), .pointer (some ⟨Bi, 0, none⟩)] W fun e W' => (∃ v, e = .returned v) ∧ ((∃ ys, ys = sel (isAll) ns ∧ J ys W') ∨ (∃ pre, pre <+: sel (isAll) ns ∧ Jx pre W')) := by
  have h1 : 1 ≤ n := by omega
  have hgl := hBg.lt
  have cG0 := hBg.cell
  have HBN := Kp.mk hBn
  have HORD := Kp.mk hord
  have HG := Kp.mk hg
  have HJ := Kp.mk hJ
  have HY := Kp.mk hY
  have H0 := Kp.mk h0
  have HNO := Kp.mk hno
  have HN0 := Kp.mk hn0
  have HBG := Kp.mk hBg
  have HBI := Kp.mk hBi
  have hlen : ns.length ≤ 1024 := hg.ok.len
  clear hord hg hJ hY h0 hno hn0 hBn hBg hBi
  refine callsIn_of_wp Try.func59 rfl h59 ?_ hro
  simp only [Try.ntmps59, List.size_toArray, List.length_cons, List.length_nil, Nat.reduceAdd, Nat.reduceSub, Array.replicate_succ, Array.replicate_zero, List.push_toArray, List.append_toArray, List.nil_append, List.cons_append]
  gi_wp2_with (gi_at_call 41; refine HORD.out.mono ?_; rintro e w1 ⟨v, rfl, ho, hf, hb⟩; obtain ⟨A, c, hv, hcv, _, hs0, hs1⟩ := ho.shape; subst hv)
  rw [nums_len]
  rw [nums_len] at hcv
  obtain ⟨m, hm⟩ : ∃ m, m = ns.length := ⟨_, rfl⟩
  rw [nums_len, ← hm] at ho hf
  rw [← hm] at hlen hcv ⊢
  have HO := Kp.mk ho
  have HF := Kp.mk hf
  have HB1 := Kp.mk hb
  have HM := Kp.mk hm
  have HS0 := Kp.mk hs0
  have HS1 := Kp.mk hs1
  have hw1 : W.heap.size ≤ w1.heap.size := hb.size
  have hno1 : Kp (∀ k, ¬ OwnedAt w1 B t k) := ⟨fun k hk => HNO.out k (owned_kept (hb.block B hB) k hk)⟩
  have hj1 : Kp (J [] w1) := ⟨HJ.out [] W w1 none H0.out (grown_below hb) (fun r e => by cases e)⟩
  clear ho hf hb hm hs0 hs1 hcv
  gi_wp2
  gi_loopw [10] (fun i wr => ∃ (k : Nat), k ≤ m ∧ i = .int .i64 k ∧ Kp (J (sel (isAll) (ns.take k)) wr) ∧ Kp (KpB n0 B t w1 wr)) (fun i _ => m - (intOf i).toNat)
  case atStart => exact ⟨0, Nat.zero_le _, rfl, hj1, ⟨KpB.refl _⟩⟩
  case round =>
    obtain ⟨k, hk, rfl, HJK, HKB⟩ := hrel
    by_cases hlt : k < m
    · have hkn : k < ns.length := by rw [← HM.out]; exact hlt
      obtain ⟨g, rfl⟩ : ∃ g, A = some ⟨g, 0, none⟩ := by
        cases A with
        | none => have h1 := (HS0.out rfl).1; have := nums_len ns; rw [h1] at this; simp at this; omega
        | some x => obtain ⟨g, rfl⟩ := HS1.out x rfl; exact ⟨g, rfl⟩
      have hgw : W.heap.size ≤ g := HF.out g rfl
      have ho2 : Own wr 2 eI64 (.slice (some ⟨g, 0, none⟩) m c) (nums ns) := HKB.out.own HO.out (fun g' hg' => by obtain rfl : g = g' := (by simpa [Value.ownBlock] using hg'); omega) (fun g' _ => hno1.out g')
      obtain ⟨nx, hnx⟩ : ∃ nx, nx = ns[k] := ⟨_, rfl⟩
      have hq : wr.cell? ⟨g, k, none⟩ = some (.int .i64 nx.1) := by
        have h1 := ho2.elem k 0 (by rw [nums_len]; exact hkn) (by decide)
        rw [hnx]; simpa [eI64, nums] using h1
      have hbw : Below n0 W wr := (HB1.out.mono hn1).trans HKB.out.below
      have hgr : IsG wr p bm lm rm ns last := by
        exact ⟨HG.out.g.heap (fun g hg => hbw.block g (HN0.out g hg)), HG.out.ok⟩
      have hsz : W.heap.size ≤ wr.heap.size := hbw.size
      have hlg : n0 ≤ wr.heap.size := Nat.le_trans hn1 hsz
      have keep : ∀ {k : Nat} {T : TypeId} {v : Value}, Boxed W k T v → k ≠ B → Boxed wr k T v := fun {k T v} hb hk =>
        HKB.out.cells k _ ((HB1.out.block k hb.lt).trans hb) rfl hk (hno1.out k)
      have bG := keep HBG.out (HBN.out Bg (.inl rfl))
      have bI := keep HBI.out (HBN.out Bi (.inr rfl))
      have hgB := bG.lt
      have hgI := bI.lt
      have cG := bG.cell
      have cI := bI.cell
      have cp := hgr.g.c0
      have lp := lt_of_block hgr.g.blk
      have hmem : nx ∈ ns := by rw [hnx]; exact List.getElem_mem hkn
      obtain ⟨nn, x⟩ := nx
      have hgd := hgr.ok.good _ hmem
      have htp := hgr.ok.top _ hmem
      simp only at hq hgd htp
      have okn : K2.ok nn := ok2 nn (by omega) (by omega)
      have hl0 : (Instr.lookup 61 (.map (some bm)) (.int .i64 nn) false).run Try.prog wr = .ok (.agg #[.int .i64 x.a, .int .i64 x.b, .int .i64 x.r]) wr := by
        have h1 := hgr.g.mb.get Try.underlying61 (Try.zeroValue48 wr) nn okn
        rw [(look_bonds hgr.ok).2 ⟨x, hmem, rfl⟩] at h1
        exact h1
      have hst := sel_snoc (isAll) ns k hkn
      rw [← hnx] at hst
      simp only at hst
      have k0 : (0 : Int) ≤ (k : Int) := by omega
      have k1 : (k : Int) < (m : Int) := by omega
      obtain ⟨Wa, hWa⟩ : ∃ Wa, Wa = wr.alloc (.cells #[.int .i64 x.a, .int .i64 x.b, .int .i64 x.r] 48) := ⟨_, rfl⟩
      have hba : Below wr.heap.size wr Wa := by rw [hWa]; exact (Below.refl _ _).alloc (Nat.le_refl _) _
      have xa : Wa.heap[wr.heap.size]? = some (.cells #[.int .i64 x.a, .int .i64 x.b, .int .i64 x.r] 48 (0, 0)) := by rw [hWa]; exact blk_new wr _
      have cIa := (hba.cell (p := ⟨Bi, 0, none⟩) (by show Bi < wr.heap.size; omega)).trans cI
      rw [hWa] at cIa
      have HBW := Kp.mk hbw
      have HST := Kp.mk hst
      have HBA := Kp.mk hba
      have XA := Kp.mk xa
      have HWA := Kp.mk hWa
      have HPL := HKB.out.size
      have hin : 1 ≤ n - 1 := by omega
      clear keep bG bI ho2 hbw hgr hmem hgd htp okn hst hnx hba xa hWa
      cases hfx : (isAll) x
      · cases hfx
      · rw [hfx, if_pos rfl] at HST
        have hll : Kp ((sel (isAll) (ns.take k)).length < (sel (isAll) ns).length) := ⟨by
          have h2 := (sel_pre (isAll) ns (k + 1)).length_le
          rw [HST.out] at h2
          simp at h2
          omega⟩
        gi_wp2_with (gi_at_call 54; refine (all1_in F (n - 1) h54 hro _ x).mono ?_; rintro e w5 ⟨rfl, hb5⟩; rw [hfx]; rw [← HWA.out] at hb5; have HB5 := Kp.mk (bstep HBA.out HBA.out.size hb5); have hJ5 : J (sel (isAll) (ns.take k)) w5 := HJ.out _ wr w5 none HJK.out (grown_below HB5.out) (fun r e => by cases e); obtain ⟨fn, tmps, assign, body, hy, hR⟩ := HY.out _ x w5 hJ5 hll.out; unfold vB at hy; have x5 := (hb5.block _ (lt_of_block XA.out)).trans XA.out; have b0 := blk_c x5 0; have b1 := blk_c x5 1; have b2 := blk_c x5 2; clear hb5 hJ5 x5)
        rename_i K9 hK9
        refine hR.mono ?_
        rintro e W3 (⟨rfl, hJ3, hk3⟩ | ⟨rfl, hJx3⟩)
        · have HJ3 := Kp.mk hJ3
          have HK3 := Kp.mk hk3
          clear hJ3 hk3 hR hy b0 b1 b2
          refine hK9 _ _ ?_
          clear hK9
          gi_wp2
          go_roundw
          case rel => exact ⟨k + 1, by omega, by go_num, ⟨by rw [HST.out]; exact HJ3.out⟩, ⟨(HKB.out.trans (KpB.new HB5.out (by omega) hlg)).trans HK3.out⟩⟩
          case measure => simp [intOf]; omega
        · have HJX := Kp.mk hJx3
          clear hJx3 hR hy b0 b1 b2
          refine hK9 _ _ ?_
          clear hK9
          gi_wp2
          refine bodyPost_ret (results_none rfl _ _ _) rfl ?_
          exact ⟨⟨_, rfl⟩, .inr ⟨_, by rw [← HST.out]; exact sel_pre _ _ _, HJX.out⟩⟩
    · obtain rfl : k = m := by omega
      have hjj := HJK.out
      rw [List.take_of_length_le (by rw [HM.out]; exact Nat.le_refl _)] at hjj
      have HJJ := Kp.mk hjj
      clear hjj
      gi_wp2
      go_end0
      exact ⟨⟨_, rfl⟩, .inl ⟨_, rfl, HJJ.out⟩⟩
end Go.Proofs.Ytlbbheopoflmjaa
