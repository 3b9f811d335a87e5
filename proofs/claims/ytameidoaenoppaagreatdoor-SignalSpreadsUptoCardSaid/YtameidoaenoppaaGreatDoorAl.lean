/- What the iterator All of package links tells, and what all of package signal's law collects; for a graph whose last number is at most 10^18. -/
import Derived.Test.YtameidoaenoppaaGreatDoorLPc
import Derived.Test.YtameidoaenoppaaGreatDoorLOs
import Derived.Test.YtameidoaenoppaaGreatDoorRange
import Derived.Test.YtameidoaenoppaaGreatDoorSv
namespace Go.Proofs.YtameidoaenoppaaGreatDoor
open Go.RowKit Go.Shelf
attribute [local go_sem] Oper.semAt_some

theorem KpB.new {n0 B : Nat} {t : TypeId} {W W' : World} (h : Below W.heap.size W W') (hB : B < W.heap.size) (hn : n0 ≤ W.heap.size) : KpB n0 B t W W' :=
  ⟨h.size, fun k _ hk _ _ _ => (h.block k (lt_of_block hk)).trans hk, fun k hk => .inl (owned_kept (h.block B hB) k hk), h.mono hn⟩
theorem KpB.own {n0 B : Nat} {t : TypeId} {A C : World} {α : Type} {T : TypeId} {E : El α} {v : Value} {l : List α} (h : KpB n0 B t A C) (ho : Own A T E v l) (hB : ∀ g, v.ownBlock = some g → g ≠ B) (hO : ∀ g, v.ownBlock = some g → ¬ OwnedAt A B t g) : Own C T E v l := by
  refine ⟨ho.row.1, ?_⟩
  rcases ho.row.2 with h0 | ⟨g, cap, cur, rfl, hb, hg, rest⟩
  · exact .inl h0
  · exact .inr ⟨g, cap, cur, rfl, hb, h.cells g _ hg rfl (hB g rfl) (hO g rfl), rest⟩

theorem grown_below {W W' : World} (h : Below W.heap.size W W') : W.grownBy W' none := ⟨h.os, h.tape, h.output, h.size, fun k hk _ => h.block k hk⟩
theorem G3.heap {w w' : World} {p bm lm rm : Nat} {last : Int} {eb : List (Int × Value)} {el : List ((Int × Int) × Value)} {er : List (Int × Value)} (h : G3 w p bm lm rm last eb el er) (hb : ∀ g, FG p bm lm rm g → w'.heap[g]? = w.heap[g]?) : G3 w' p bm lm rm last eb el er :=
  ⟨(hb p (.inl rfl)).trans h.blk, h.mb.heap (hb bm (.inr (.inl rfl))), h.ml.heap (hb lm (.inr (.inr (.inl rfl)))), h.mr.heap (hb rm (.inr (.inr (.inr rfl)))), h.ne⟩

set_option maxHeartbeats 1000000 in
theorem all1_in (F : Fence) (n : Nat) (h54 : F.fn 67) (hro : F.round = none) (w : World) (x : Bd) :
    CallsIn F n Tryz.prog 67 #[.agg #[.int .i64 x.a, .int .i64 x.b, .int .i64 x.r]] w fun e w' => e = .returned (.bool (isAll x)) ∧ Below w.heap.size w w' := by
  refine callsIn_of_wp Tryz.func67 rfl h54 ?_ hro
  simp only [Tryz.ntmps67, List.size_toArray, List.length_cons, List.length_nil, Nat.reduceAdd, Nat.reduceSub, Array.replicate_succ, Array.replicate_zero, List.push_toArray, List.append_toArray, List.nil_append, List.cons_append]
  gi_wp2
  go_ret
  exact ⟨rfl, (Below.refl _ _).alloc (Nat.le_refl _) _⟩
set_option maxRecDepth 100000 in
set_option maxHeartbeats 4000000 in
theorem some_all_in (F : Fence) (n : Nat) (h59 : F.fn 77) (h41 : F.fn 59) (h54 : F.fn 67) (hro : F.round = none) (hn : 3 ≤ n) (t : TypeId) (W : World) (l Bg Bi B n0 p bm lm rm : Nat) (ns : List NB) (last : Int)
    (hord : CallsIn F (n - 1) Tryz.prog 59 #[.pointer (some ⟨p, 0, none⟩)] W (OrderPost W ns)) (J Jx : List Bd → World → Prop)
    (hg : IsG W p bm lm rm ns last) (hBg : Boxed W Bg 27 (.pointer (some ⟨p, 0, none⟩))) (hBi : Boxed W Bi 103 (.func (.func 67) #[] #[]))
    (hn0 : ∀ g, FG p bm lm rm g → g < n0) (hBn : ∀ g, (g = Bg ∨ g = Bi) → g ≠ B) (hn1 : n0 ≤ W.heap.size) (hla : last ≤ 1000000000000000000)
    (hB : B < W.heap.size) (hno : ∀ k, ¬ OwnedAt W B t k) (hJ : AbidesFrom W.heap.size J)
    (hY : ∀ pre x W1, J pre W1 → pre.length < (sel (isAll) ns).length → YieldAt F (n - 1) Tryz.prog l #[vB x] W1 fun e W' => (e = .returned (.bool true) ∧ J (pre ++ [x]) W' ∧ KpB n0 B t W1 W') ∨ (e = .returned (.bool false) ∧ Jx (pre ++ [x]) W')) (h0 : J [] W) :
    CallsIn F n Tryz.prog 77 #[.func (.yield l) #[] #[], .pointer (some ⟨Bg, 0, none⟩), .pointer (some ⟨Bi, 0, none⟩)] W fun e W' => (∃ v, e = .returned v) ∧ ((∃ ys, ys = sel (isAll) ns ∧ J ys W') ∨ (∃ pre, pre <+: sel (isAll) ns ∧ Jx pre W')) := by
  have h1 : 1 ≤ n := by omega
  have hgl := hBg.lt
  have cG0 := hBg.cell
  have HBN := Kp.mk hBn
  have HORD := Kp.mk hord
  have HG := Kp.mk hg
  have HJ := Kp.mk hJ
  have HY := Kp.mk hY
  have H0 := Kp.mk h0
  have HNO := Kp.mk hno
  have HN0 := Kp.mk hn0
  have HBG := Kp.mk hBg
  have HBI := Kp.mk hBi
  have hlen : ns.length ≤ 1024 := hg.ok.len
  clear hord hg hJ hY h0 hno hn0 hBn hBg hBi
  refine callsIn_of_wp Tryz.func77 rfl h59 ?_ hro
  simp only [Tryz.ntmps77, List.size_toArray, List.length_cons, List.length_nil, Nat.reduceAdd, Nat.reduceSub, Array.replicate_succ, Array.replicate_zero, List.push_toArray, List.append_toArray, List.nil_append, List.cons_append]
  gi_wp2_with (gi_at_call 59; refine HORD.out.mono ?_; rintro e w1 ⟨v, rfl, ho, hf, hb⟩; obtain ⟨A, c, hv, hcv, _, hs0, hs1⟩ := ho.shape; subst hv)
  rw [nums_len]
  rw [nums_len] at hcv
  obtain ⟨m, hm⟩ : ∃ m, m = ns.length := ⟨_, rfl⟩
  rw [nums_len, ← hm] at ho hf
  rw [← hm] at hlen hcv ⊢
  have HO := Kp.mk ho
  have HF := Kp.mk hf
  have HB1 := Kp.mk hb
  have HM := Kp.mk hm
  have HS0 := Kp.mk hs0
  have HS1 := Kp.mk hs1
  have hw1 : W.heap.size ≤ w1.heap.size := hb.size
  have hno1 : Kp (∀ k, ¬ OwnedAt w1 B t k) := ⟨fun k hk => HNO.out k (owned_kept (hb.block B hB) k hk)⟩
  have hj1 : Kp (J [] w1) := ⟨HJ.out [] W w1 none H0.out (grown_below hb) (fun r e => by cases e)⟩
  clear ho hf hb hm hs0 hs1 hcv
  gi_wp2
  gi_loopw [10] (fun i wr => ∃ (k : Nat), k ≤ m ∧ i = .int .i64 k ∧ Kp (J (sel (isAll) (ns.take k)) wr) ∧ Kp (KpB n0 B t w1 wr)) (fun i _ => m - (intOf i).toNat)
  case atStart => exact ⟨0, Nat.zero_le _, rfl, hj1, ⟨KpB.refl _⟩⟩
  case round =>
    obtain ⟨k, hk, rfl, HJK, HKB⟩ := hrel
    by_cases hlt : k < m
    · have hkn : k < ns.length := by rw [← HM.out]; exact hlt
      obtain ⟨g, rfl⟩ : ∃ g, A = some ⟨g, 0, none⟩ := by
        cases A with
        | none => have h1 := (HS0.out rfl).1; have := nums_len ns; rw [h1] at this; simp at this; omega
        | some x => obtain ⟨g, rfl⟩ := HS1.out x rfl; exact ⟨g, rfl⟩
      have hgw : W.heap.size ≤ g := HF.out g rfl
      have ho2 : Own wr 2 eI64 (.slice (some ⟨g, 0, none⟩) m c) (nums ns) := HKB.out.own HO.out (fun g' hg' => by obtain rfl : g = g' := (by simpa [Value.ownBlock] using hg'); omega) (fun g' _ => hno1.out g')
      obtain ⟨nx, hnx⟩ : ∃ nx, nx = ns[k] := ⟨_, rfl⟩
      have hq : wr.cell? ⟨g, k, none⟩ = some (.int .i64 nx.1) := by
        have h1 := ho2.elem k 0 (by rw [nums_len]; exact hkn) (by decide)
        rw [hnx]; simpa [eI64, nums] using h1
      have hbw : Below n0 W wr := (HB1.out.mono hn1).trans HKB.out.below
      have hgr : IsG wr p bm lm rm ns last := by
        exact ⟨HG.out.g.heap (fun g hg => hbw.block g (HN0.out g hg)), HG.out.ok⟩
      have hsz : W.heap.size ≤ wr.heap.size := hbw.size
      have hlg : n0 ≤ wr.heap.size := Nat.le_trans hn1 hsz
      have keep : ∀ {k : Nat} {T : TypeId} {v : Value}, Boxed W k T v → k ≠ B → Boxed wr k T v := fun {k T v} hb hk =>
        HKB.out.cells k _ ((HB1.out.block k hb.lt).trans hb) rfl hk (hno1.out k)
      have bG := keep HBG.out (HBN.out Bg (.inl rfl))
      have bI := keep HBI.out (HBN.out Bi (.inr rfl))
      have hgB := bG.lt
      have hgI := bI.lt
      have cG := bG.cell
      have cI := bI.cell
      have cp := hgr.g.c0
      have lp := lt_of_block hgr.g.blk
      have hmem : nx ∈ ns := by rw [hnx]; exact List.getElem_mem hkn
      obtain ⟨nn, x⟩ := nx
      have hgd := hgr.ok.good _ hmem
      have htp := hgr.ok.top _ hmem
      simp only at hq hgd htp
      have okn : K2.ok nn := ok2 nn (by omega) (by omega)
      have hl0 : (Instr.lookup 83 (.map (some bm)) (.int .i64 nn) false).run Tryz.prog wr = .ok (.agg #[.int .i64 x.a, .int .i64 x.b, .int .i64 x.r]) wr := by
        have h1 := hgr.g.mb.get Tryz.underlying83 (Tryz.zeroValue71 wr) nn okn
        rw [(look_bonds hgr.ok).2 ⟨x, hmem, rfl⟩] at h1
        exact h1
      have hst := sel_snoc (isAll) ns k hkn
      rw [← hnx] at hst
      simp only at hst
      have k0 : (0 : Int) ≤ (k : Int) := by omega
      have k1 : (k : Int) < (m : Int) := by omega
      obtain ⟨Wa, hWa⟩ : ∃ Wa, Wa = wr.alloc (.cells #[.int .i64 x.a, .int .i64 x.b, .int .i64 x.r] 71) := ⟨_, rfl⟩
      have hba : Below wr.heap.size wr Wa := by rw [hWa]; exact (Below.refl _ _).alloc (Nat.le_refl _) _
      have xa : Wa.heap[wr.heap.size]? = some (.cells #[.int .i64 x.a, .int .i64 x.b, .int .i64 x.r] 71 (0, 0)) := by rw [hWa]; exact blk_new wr _
      have cIa := (hba.cell (p := ⟨Bi, 0, none⟩) (by show Bi < wr.heap.size; omega)).trans cI
      rw [hWa] at cIa
      have HBW := Kp.mk hbw
      have HST := Kp.mk hst
      have HBA := Kp.mk hba
      have XA := Kp.mk xa
      have HWA := Kp.mk hWa
      have HPL := HKB.out.size
      have hin : 1 ≤ n - 1 := by omega
      clear keep bG bI ho2 hbw hgr hmem hgd htp okn hst hnx hba xa hWa
      cases hfx : (isAll) x
      · cases hfx
      · rw [hfx, if_pos rfl] at HST
        have hll : Kp ((sel (isAll) (ns.take k)).length < (sel (isAll) ns).length) := ⟨by
          have h2 := (sel_pre (isAll) ns (k + 1)).length_le
          rw [HST.out] at h2
          simp at h2
          omega⟩
        gi_wp2_with (gi_at_call 67; refine (all1_in F (n - 1) h54 hro _ x).mono ?_; rintro e w5 ⟨rfl, hb5⟩; rw [hfx]; rw [← HWA.out] at hb5; have HB5 := Kp.mk (bstep HBA.out HBA.out.size hb5); have hJ5 : J (sel (isAll) (ns.take k)) w5 := HJ.out _ wr w5 none HJK.out (grown_below HB5.out) (fun r e => by cases e); obtain ⟨fn, tmps, assign, body, hy, hR⟩ := HY.out _ x w5 hJ5 hll.out; unfold vB at hy; have x5 := (hb5.block _ (lt_of_block XA.out)).trans XA.out; have b0 := blk_c x5 0; have b1 := blk_c x5 1; have b2 := blk_c x5 2; clear hb5 hJ5 x5)
        rename_i K9 hK9
        refine hR.mono ?_
        rintro e W3 (⟨rfl, hJ3, hk3⟩ | ⟨rfl, hJx3⟩)
        · have HJ3 := Kp.mk hJ3
          have HK3 := Kp.mk hk3
          clear hJ3 hk3 hR hy b0 b1 b2
          refine hK9 _ _ ?_
          clear hK9
          gi_wp2
          go_roundw
          case rel => exact ⟨k + 1, by omega, by go_num, ⟨by rw [HST.out]; exact HJ3.out⟩, ⟨(HKB.out.trans (KpB.new HB5.out (by omega) hlg)).trans HK3.out⟩⟩
          case measure => simp [intOf]; omega
        · have HJX := Kp.mk hJx3
          clear hJx3 hR hy b0 b1 b2
          refine hK9 _ _ ?_
          clear hK9
          gi_wp2
          refine bodyPost_ret (results_none rfl _ _ _) rfl ?_
          exact ⟨⟨_, rfl⟩, .inr ⟨_, by rw [← HST.out]; exact sel_pre _ _ _, HJX.out⟩⟩
    · obtain rfl : k = m := by omega
      have hjj := HJK.out
      rw [List.take_of_length_le (by rw [HM.out]; exact Nat.le_refl _)] at hjj
      have HJJ := Kp.mk hjj
      clear hjj
      gi_wp2
      go_end0
      exact ⟨⟨_, rfl⟩, .inl ⟨_, rfl, HJJ.out⟩⟩
def CollPost (w : World) (xs : List Bd) (e : Ending) (w' : World) : Prop := ∃ v, e = .returned v ∧ Own w' 71 eBd v xs ∧ Fresh w v ∧ Below w.heap.size w w'
set_option maxHeartbeats 1000000 in
theorem mkSome_in (F : Fence) (n : Nat) (h : F.fn 66) (hro : F.round = none) (p0 : Option Addr) (fc : Nat) (lb : Array Value) (w : World) :
    CallsIn F n Tryz.prog 66 #[.pointer p0, .func (.func fc) #[] lb] w fun e w' => e = .returned (.func (.func 77) #[] #[.pointer (some ⟨w.heap.size, 0, none⟩), .pointer (some ⟨w.heap.size + 1, 0, none⟩)]) ∧ w' = (w.alloc (.cells #[.pointer p0] 27)).alloc (.cells #[.func (.func fc) #[] lb] 103) := by
  refine callsIn_of_wp Tryz.func66 rfl h ?_ hro
  simp only [Tryz.ntmps66, List.size_toArray, List.length_cons, List.length_nil, Nat.reduceAdd, Nat.reduceSub, Array.replicate_succ, Array.replicate_zero, List.push_toArray, List.append_toArray, List.nil_append, List.cons_append]
  gi_wp2
  go_ret
  exact ⟨rfl, rfl⟩
set_option maxHeartbeats 1000000 in
theorem mkAll_in (F : Fence) (n : Nat) (h : F.fn 39) (h53 : F.fn 66) (hro : F.round = none) (hn : 1 ≤ n) (p0 : Option Addr) (w : World) :
    CallsIn F n Tryz.prog 39 #[.pointer p0] w fun e w' => e = .returned (.func (.func 77) #[] #[.pointer (some ⟨w.heap.size, 0, none⟩), .pointer (some ⟨w.heap.size + 1, 0, none⟩)]) ∧ w' = (w.alloc (.cells #[.pointer p0] 27)).alloc (.cells #[.func (.func 67) #[] #[]] 103) := by
  refine callsIn_of_wp Tryz.func39 rfl h ?_ hro
  simp only [Tryz.ntmps39, List.size_toArray, List.length_cons, List.length_nil, Nat.reduceAdd, Nat.reduceSub, Array.replicate_succ, Array.replicate_zero, List.push_toArray, List.append_toArray, List.nil_append, List.cons_append]
  gi_wp2_with (gi_at_call 66; refine (mkSome_in F (n - 1) h53 hro _ _ _ _).mono ?_; rintro e w' ⟨rfl, rfl⟩)
  go_ret
  exact ⟨rfl, rfl⟩
set_option maxRecDepth 100000 in
set_option maxHeartbeats 4000000 in
theorem all_in (F : Fence) (n : Nat) (hf : F.fn 12) (hmk : F.fn 39) (h53 : F.fn 66) (h59 : F.fn 77) (hro : F.round = none) (hn : 4 ≤ n) (w : World) (p0 : Option Addr) (xs : List Bd) (hlen : xs.length ≤ 1000000)
    (hseq : ∀ W B Bg Bi, Below w.heap.size w W → Boxed W Bg 27 (.pointer p0) → Boxed W Bi 103 (.func (.func 67) #[] #[]) → B < W.heap.size → (∀ g, (g = Bg ∨ g = Bi) → g ≠ B) → (∀ k, ¬ OwnedAt W B 41 k) →
      SeqStopsK F (n - 1) Tryz.prog 77 #[.pointer (some ⟨Bg, 0, none⟩), .pointer (some ⟨Bi, 0, none⟩)] (fun x : Bd => #[vB x]) (KpB w.heap.size B 41) (fun ys => ys = xs) (fun pre => pre <+: xs) xs.length W) :
    CallsIn F n Tryz.prog 12 #[.pointer p0] w (CollPost w xs) := by
  have h1 : 1 ≤ n := by omega
  have HSEQ := Kp.mk hseq
  clear hseq
  have hfe : ∀ (w : World) (b c : Nat), (binOp BinOp.eql 68 (.func (.func 77) #[] #[.pointer (some ⟨b, 0, none⟩), .pointer (some ⟨c, 0, none⟩)]) .nilFunc).run Tryz.prog w = .ok (.bool false) w := fun _ _ _ => by kernel_rfl
  refine callsIn_of_wp_marks Tryz.func12 rfl hf ?_ hro
  simp only [Tryz.ntmps12, List.size_toArray, List.length_cons, List.length_nil, Nat.reduceAdd, Nat.reduceSub, Array.replicate_succ, Array.replicate_zero, List.push_toArray, List.append_toArray, List.nil_append, List.cons_append]
  gi_wp2_with (gi_at_call 39; refine (mkAll_in F (n - 1) hmk h53 hro (by omega) _ _).mono ?_; rintro e w' ⟨rfl, rfl⟩)
  obtain ⟨W0, hW0⟩ : ∃ W0, W0 = allocN w [.cells #[.slice none 0 0] 41, .cells #[.pointer p0] 27, .cells #[.func (.func 67) #[] #[]] 103] := ⟨_, rfl⟩
  have hsz : W0.heap.size = w.heap.size + 3 := by rw [hW0]; exact allocN_size _ _
  have hB0 : Below w.heap.size w W0 := by rw [hW0]; exact allocN_below _ _
  have bL : Boxed W0 w.heap.size 41 (.slice none 0 0) := by rw [hW0]; exact allocN_at _ _ 0 _ rfl
  have bG : Boxed W0 (w.heap.size + 1) 27 (.pointer p0) := by rw [hW0]; exact allocN_at _ _ 1 _ rfl
  have bI : Boxed W0 (w.heap.size + 1 + 1) 103 (.func (.func 67) #[] #[]) := by rw [hW0]; exact allocN_at _ _ 2 _ rfl
  have hW1 : (((w.alloc (.cells #[.slice none 0 0] 41)).alloc (.cells #[.pointer p0] 27)).alloc (.cells #[.func (.func 67) #[] #[]] 103)) = W0 := by rw [hW0]; rfl
  rw [hW1]
  have hno : ∀ k, ¬ OwnedAt W0 w.heap.size 41 k := by
    rintro k ⟨v, hv, hk⟩
    have e := hv.cell.symm.trans bL.cell
    cases e
    cases hk
  clear hW1 hW0
  refine wpIn_rangeFunc_ownH hro h1 (gf := 77) (lb := #[.pointer (some ⟨w.heap.size + 1, 0, none⟩), .pointer (some ⟨w.heap.size + 1 + 1, 0, none⟩)]) rfl h59 (enters_of Tryz.func77 (by kernel_rfl) rfl)
    (HSEQ.out W0 w.heap.size (w.heap.size + 1) (w.heap.size + 1 + 1) hB0 bG bI (by omega) (by omega) hno) KpB.trans (KpB.turn (by omega) (by omega)) (Below.refl _ _) (fun _ => rfl)
    (fun pre W => Coll w 71 eBd 41 w.heap.size id pre W)
    (fun _ _ _ => False)
    (coll_own (by omega))
    (fun c s X Y row h _ _ => h)
    ⟨⟨_, bL, Own.nil _ _ _, Fresh.nil _ _ _⟩, hB0⟩
    (fun x a' V => ∃ Bx, V.heap[Bx]? = some (.cells #[.int .i64 x.a, .int .i64 x.b, .int .i64 x.r] 71 (0, 0)) ∧ a' = { tmps := #[.pointer p0, undef, .slice none 0 0, .pointer (some ⟨w.heap.size, 0, none⟩), .func (.func 77) #[] #[.pointer (some ⟨w.heap.size + 1, 0, none⟩), .pointer (some ⟨w.heap.size + 1 + 1, 0, none⟩)], .pointer (some ⟨Bx, 0, none⟩), .pointer p0, .func (.func 77) #[] #[.pointer (some ⟨w.heap.size + 1, 0, none⟩), .pointer (some ⟨w.heap.size + 1 + 1, 0, none⟩)], .func (.func 77) #[] #[.pointer (some ⟨w.heap.size + 1, 0, none⟩), .pointer (some ⟨w.heap.size + 1 + 1, 0, none⟩)], .bool false, .func (.func 77) #[] #[.pointer (some ⟨w.heap.size + 1, 0, none⟩), .pointer (some ⟨w.heap.size + 1 + 1, 0, none⟩)], .agg #[.int .i64 x.a, .int .i64 x.b, .int .i64 x.r], undef, undef, undef, undef, undef], defers := [] })
    (fun x a' s X1 X2 row hs hg hr => by
      obtain ⟨Bx, hb, ha⟩ := hs
      refine ⟨Bx, (hg.block _ (lt_of_block hb) (fun e => ?_)).trans hb, ha⟩
      obtain ⟨_, o, ho, hc⟩ := hr Bx e.symm
      rw [hb] at ho; cases ho; cases hc)
    ?assign ?body ?done ?stop
  case assign =>
    rintro l' pre x V K ⟨⟨v, hv, ho, hf⟩, hbel⟩ hK
    have hvl := hv.lt
    have hn0 : w.heap.size ≤ V.heap.size := hbel.size
    have hb1 : Below V.heap.size V (V.alloc (.cells #[.int .i64 x.a, .int .i64 x.b, .int .i64 x.r] 71)) := (Below.refl _ _).alloc (Nat.le_refl _) _
    have HKK := Kp.mk (hK { tmps := #[.pointer p0, undef, .slice none 0 0, .pointer (some ⟨w.heap.size, 0, none⟩), .func (.func 77) #[] #[.pointer (some ⟨w.heap.size + 1, 0, none⟩), .pointer (some ⟨w.heap.size + 1 + 1, 0, none⟩)], .pointer (some ⟨V.heap.size, 0, none⟩), .pointer p0, .func (.func 77) #[] #[.pointer (some ⟨w.heap.size + 1, 0, none⟩), .pointer (some ⟨w.heap.size + 1 + 1, 0, none⟩)], .func (.func 77) #[] #[.pointer (some ⟨w.heap.size + 1, 0, none⟩), .pointer (some ⟨w.heap.size + 1 + 1, 0, none⟩)], .bool false, .func (.func 77) #[] #[.pointer (some ⟨w.heap.size + 1, 0, none⟩), .pointer (some ⟨w.heap.size + 1 + 1, 0, none⟩)], .agg #[.int .i64 x.a, .int .i64 x.b, .int .i64 x.r], undef, undef, undef, undef, undef], defers := [] } _ ((KeepsOthers.alloc V (.cells #[.int .i64 x.a, .int .i64 x.b, .int .i64 x.r] 71)).from _) (KpB.new hb1 hvl hn0) ⟨⟨v, Boxed.alloc hv _, ho.alloc _, hf⟩, hbel.trans (hb1.mono hn0)⟩ ⟨V.heap.size, blk_new V _, rfl⟩)
    clear hK hv ho hf hbel
    unfold vB
    gi_wp2
    exact HKK.out
  case body =>
    rintro l' pre x a' W hl' hr0 ⟨⟨v, hv, ho, hf⟩, hbel⟩ ⟨Bx, hbx, rfl⟩ hlt
    clear bL bG bI hB0 hno hfe
    obtain ⟨A, c, hvs, _⟩ := ho.shape
    subst hvs
    have hc := hv.cell
    have hb0' := blk_c hbx 0
    have hb1' := blk_c hbx 1
    have hb2' := blk_c hbx 2
    have hlt' : pre.length < 1000000 := by omega
    have HV := Kp.mk hv
    have HO := Kp.mk ho
    have HF := Kp.mk hf
    have HB := Kp.mk hbel
    have ho' : Own W 71 eBd (.slice A pre.length c) pre := ho
    have hw : w.heap.size ≤ W.heap.size := hbel.size
    clear hv ho hf hbel hr0 hbx
    gi_wp2_with (gi_at_builtin; refine app1_evIn T27 x rfl _ _ rfl ho' rfl rfl rfl (by simp) rfl (by omega) (by omega) ?_; intro A' n' c' w1 a0 a1 a2 a3; obtain ⟨k1, k2, k3, k4, k5, k6, k7⟩ := coll_app HV.out (by decide) HO.out HF.out HB.out (by omega) a1 a2 a3; have hc1 := k1.cell; have hf1 := k1.frozen; obtain rfl : n' = pre.length + 1 := a0.out)
    exact ⟨k5.from _, KpB.app HV.out k2 k7 a3 k6, ⟨⟨_, k2, k3, k4⟩, HB.out.trans k6⟩⟩
  case done =>
    rintro D ys W hD rfl ⟨⟨v, hv, ho, hf⟩, hbel⟩ hK
    have hc := hv.cell
    have HO := Kp.mk ho
    have HK := Kp.mk hK
    gi_wp2
    refine ⟨by simp, .inl ⟨_, _, rfl, run_takeDeferred HK.out, ?_⟩⟩
    exact ⟨_, results_tmp rfl _ _ _, v, rfl, HO.out.putObj _ HK.out rfl, hf, hbel.trans (belowK_b (w := w) (Nat.le_refl _) W D _ _ (by omega) HK.out rfl rfl)⟩
  case stop =>
    rintro D c pre W hD hSp hF hK
    exact hF.elim
section
variable {w : World} {p bm lm rm : Nat} {ns : List NB} {last : Int}
theorem Boxed.up {w' : World} {k : Nat} {t : TypeId} {v : Value} (h : Boxed w k t v) (hb : Below w.heap.size w w') : Boxed w' k t v := (hb.block k h.lt).trans h
theorem every_seq (hs : SortC) (n : Nat) (hn : 3 ≤ n) (h : IsG w p bm lm rm ns last) (hla : last ≤ 1000000000000000000) (t : TypeId) (W : World) (B Bg Bi : Nat) (hb : Below w.heap.size w W) (hG : Boxed W Bg 27 (.pointer (some ⟨p, 0, none⟩)))
    (hI : Boxed W Bi 103 (.func (.func 67) #[] #[])) (hB : B < W.heap.size) (hBn : ∀ g, (g = Bg ∨ g = Bi) → g ≠ B) (hno : ∀ k, ¬ OwnedAt W B t k) :
    SeqStopsK Fence.wide n Tryz.prog 77 #[.pointer (some ⟨Bg, 0, none⟩), .pointer (some ⟨Bi, 0, none⟩)] (fun x : Bd => #[vB x]) (KpB w.heap.size B t) (fun ys => ys = sel isAll ns) (fun pre => pre <+: sel isAll ns) (sel isAll ns).length W := fun l J Jx W1 hW hJ _ hY h0 =>
  some_all_in Fence.wide n trivial trivial trivial rfl hn t W1 l Bg Bi B w.heap.size p bm lm rm ns last (callsIn_wide.2 (order_any hs W1 p bm lm rm ns last ((h.below hb).below hW))) J Jx ((h.below hb).below hW) (Boxed.up hG hW) (Boxed.up hI hW)
    (fun g hg => h.g.lt g hg) hBn (Nat.le_trans hb.size hW.size) hla (Nat.lt_of_lt_of_le hB hW.size) (fun k hk => hno k (owned_kept (hW.block B hB) k hk)) hJ hY h0
theorem sel_all (ns : List NB) : sel isAll ns = ns.map (·.2) := by
  unfold sel isAll
  rw [List.filter_eq_self]
  intro _ _
  rfl
/-- all -/
theorem all_any (h : IsG w p bm lm rm ns last) (hla : last ≤ 1000000000000000000) :
    Calls Tryz.prog 12 #[.pointer (some ⟨p, 0, none⟩)] w (CollPost w (sn ns)) := by
  have e : sn ns = sel isAll ns := (sel_all ns).symm
  rw [e]
  exact (callsIn_wide (n := 10)).1 (all_in Fence.wide 10 trivial trivial trivial trivial rfl (by omega) w _ _ (by have := sel_len isAll ns; have := h.ok.len; omega)
    (fun W B Bg Bi hb hG hI hB hBn hno => every_seq sortC 9 (by omega) h hla 41 W B Bg Bi hb hG hI hB hBn hno))
end
end Go.Proofs.YtameidoaenoppaaGreatDoor
