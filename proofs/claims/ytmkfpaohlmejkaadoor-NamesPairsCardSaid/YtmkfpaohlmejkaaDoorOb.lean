/- What the iterator of package names tells: all entries, rising by name; for names that stay. -/
import Derived.Test.YtmkfpaohlmejkaaDoorOa
import Derived.Test.YtmkfpaohlmejkaaDoorRange
namespace Go.Proofs.YtmkfpaohlmejkaaDoor
open Go.RowKit Go.Shelf
attribute [local go_sem] Oper.semAt_some

theorem T62 : SlT Tryd.prog 62 9 eStr 16 := SlT.mk' (k := 1) (z := .string { data := #[] }) Tryd.underlying62 (by kernel_rfl) rfl rfl
def vE (x : En) : Array Value := #[.string x.n, .int .i64 x.p]
theorem KpB.new {n0 B : Nat} {t : TypeId} {W W' : World} (h : Below W.heap.size W W') (hB : B < W.heap.size) (hn : n0 ≤ W.heap.size) : KpB n0 B t W W' :=
  ⟨h.size, fun k _ hk _ _ _ => (h.block k (lt_of_block hk)).trans hk, fun k hk => .inl (owned_kept (h.block B hB) k hk), h.mono hn⟩
theorem KpB.own {n0 B : Nat} {t : TypeId} {A C : World} {α : Type} {T : TypeId} {E : El α} {v : Value} {l : List α} (h : KpB n0 B t A C) (ho : Own A T E v l) (hB : ∀ g, v.ownBlock = some g → g ≠ B) (hO : ∀ g, v.ownBlock = some g → ¬ OwnedAt A B t g) : Own C T E v l := by
  refine ⟨ho.row.1, ?_⟩
  rcases ho.row.2 with h0 | ⟨g, cap, cur, rfl, hb, hg, rest⟩
  · exact .inl h0
  · exact .inr ⟨g, cap, cur, rfl, hb, h.cells g _ hg rfl (hB g rfl) (hO g rfl), rest⟩
theorem grown_below {W W' : World} (h : Below W.heap.size W W') : W.grownBy W' none := ⟨h.os, h.tape, h.output, h.size, fun k hk _ => h.block k hk⟩
theorem G2.heap {w w' : World} {p a b : Nat} {ea : List (ByteArray × Value)} {eb : List (Int × Value)} (h : G2 w p a b ea eb) (hb : ∀ g, FG p a b g → w'.heap[g]? = w.heap[g]?) : G2 w' p a b ea eb :=
  ⟨(hb p (.inl rfl)).trans h.blk, h.ma.heap (hb a (.inr (.inl rfl))), h.mb.heap (hb b (.inr (.inr rfl))), h.ne⟩
theorem nms_len (ns : List En) : (nms ns).length = ns.length := by simp [nms]
theorem atN_mem {l : List En} (h : GOk l) {x : En} (hx : x ∈ l) : atN l x.n = some x := by
  cases h1 : atN l x.n with
  | none => exact absurd rfl (atN_none h1 x hx)
  | some y => rw [h.uniqN (atN_some h1).1 hx (atN_some h1).2]

set_option maxRecDepth 100000 in
set_option maxHeartbeats 4000000 in
theorem all1_in (F : Fence) (n : Nat) (h30 : F.fn 30) (h31 : F.fn 31) (hro : F.round = none) (hn : 3 ≤ n) (t : TypeId) (W : World) (l Bg B n0 p a b : Nat) (ns : List En)
    (hsort : ∀ (W1 : World) (v : Value) (l' : List ByteArray), Own W1 9 eStr v l' → l'.length ≤ 1000000 → l'.Perm (nms ns) → CallsIn F (n - 1) Tryd.prog 31 #[v] W1 fun e w' => e = .returned (.tuple #[]) ∧ Own w' 9 eStr v (nms ns) ∧ Chg (fun x => v.ownBlock = some x) W1 w')
    (J Jx : List En → World → Prop) (hg : IsN W p a b ns) (hBg : Boxed W Bg 23 (.pointer (some ⟨p, 0, none⟩)))
    (hn0 : ∀ g, FG p a b g → g < n0) (hBn : Bg ≠ B) (hn1 : n0 ≤ W.heap.size) (hB : B < W.heap.size) (hno : ∀ k, ¬ OwnedAt W B t k) (hJ : AbidesFrom W.heap.size J)
    (hY : ∀ pre x W1, J pre W1 → pre.length < ns.length → YieldAt F (n - 1) Tryd.prog l (vE x) W1 fun e W' => (e = .returned (.bool true) ∧ J (pre ++ [x]) W' ∧ KpB n0 B t W1 W') ∨ (e = .returned (.bool false) ∧ Jx (pre ++ [x]) W')) (h0 : J [] W) :
    CallsIn F n Tryd.prog 30 #[.func (.yield l) #[] #[], .pointer (some ⟨Bg, 0, none⟩)] W fun e W' => (∃ v, e = .returned v) ∧ ((∃ ys, ys = ns ∧ J ys W') ∨ (∃ pre, pre <+: ns ∧ Jx pre W')) := by
  have h1 : 1 ≤ n := by omega
  have hgl := hBg.lt
  have cG0 := hBg.cell
  have cp0 := hg.g.c0
  obtain ⟨w1, hr1, hrg, hb1, hz1⟩ := hg.g.ma.range Tryd.underlying51
  have ham := hg.g.ma.lt
  have HRG := Kp.mk hrg
  have HB1 := Kp.mk hb1
  have HZ1 := Kp.mk hz1
  have HS := Kp.mk hsort
  have HG := Kp.mk hg
  have HJ := Kp.mk hJ
  have HY := Kp.mk hY
  have H0 := Kp.mk h0
  have HNO := Kp.mk hno
  have HN0 := Kp.mk hn0
  have HBG := Kp.mk hBg
  have hlen : ns.length ≤ 64 := hg.ok.len
  have HWL : Kp ((whoE ns).length = ns.length) := ⟨by simp [whoE]⟩
  have HWN : Kp ((whoE ns).map (·.1) = nms ns) := ⟨by simp [whoE, nms]⟩
  clear hsort hg hJ hY h0 hno hn0 hBg hrg hb1 hz1
  refine callsIn_of_wp Tryd.func30 rfl h30 ?_ hro
  simp only [Tryd.ntmps30, List.size_toArray, List.length_cons, List.length_nil, Nat.reduceAdd, Nat.reduceSub, Array.replicate_succ, Array.replicate_zero, List.push_toArray, List.append_toArray, List.nil_append, List.cons_append]
  gi_wp2
  gi_loopw [3, 4] (fun v _ wr => ∃ seen, Kp (RangeV KS wr a W.heap.size (whoE ns) seen) ∧ Kp (Own wr 9 eStr v seen) ∧ Kp (Fresh W v) ∧ Kp (Below W.heap.size W wr) ∧ Kp (W.heap.size < wr.heap.size)) (fun _ _ wr => wr.rangeLeft a W.heap.size)
  case atStart => exact ⟨[], HRG, ⟨Own.nil _ _ _⟩, ⟨Fresh.nil _ _ _⟩, HB1, ⟨by have := HZ1.out; omega⟩⟩
  case round =>
    obtain ⟨seen, HR, HO, HF, HB, HW⟩ := hrel
    rcases HR.out.next 0 with ⟨hperm, hr⟩ | ⟨x, v, w2, hok, hlk, hns, hr, hrng, hchg, hsz, hen, hlt⟩
    · have hp : Kp (seen.Perm (nms ns)) := ⟨by rw [← HWN.out]; exact hperm⟩
      have hsl : Kp (seen.length ≤ 1000000) := ⟨by rw [hp.out.length_eq, nms_len]; omega⟩
      clear hperm
      obtain ⟨m, hm⟩ : ∃ m, m = ns.length := ⟨_, rfl⟩
      have HM := Kp.mk hm
      have hml : m ≤ 64 := by rw [hm]; exact hlen
      obtain ⟨A, c, hv, _⟩ := HO.out.shape
      have hsm : Kp (seen.length = m) := ⟨by rw [hp.out.length_eq, nms_len, hm]⟩
      rw [hsm.out] at hv
      subst hv
      clear hm
      gi_wp2_with (gi_at_call 31; refine (HS.out _ _ _ HO.out hsl.out hp.out).mono ?_; rintro e w3 ⟨rfl, ho3, hc3⟩; obtain ⟨A9, c9, hv9, _, _, hs0, hs1⟩ := ho3.shape; obtain rfl : A = A9 := (by injection hv9); clear hv9; have HO3 := Kp.mk ho3; have HC3 := Kp.mk hc3; have HS0 := Kp.mk hs0; have HS1 := Kp.mk hs1; clear ho3 hc3 hs0 hs1)
      have hb3 : Below W.heap.size W w3 := chg_below HB.out HC3.out (fun g hg => HF.out g hg) HB.out.size
      have HB3 := Kp.mk hb3
      have hw1 : W.heap.size ≤ w3.heap.size := hb3.size
      have hno1 : Kp (∀ k, ¬ OwnedAt w3 B t k) := ⟨fun k hk => HNO.out k (owned_kept (hb3.block B hB) k hk)⟩
      have hj1 : Kp (J [] w3) := ⟨HJ.out [] W w3 none H0.out (grown_below hb3) (fun r e => by cases e)⟩
      clear hb3
      gi_wp2
      gi_loopw [6, 7, 8, 28] (fun _ _ _ i wr => ∃ (k : Nat), k ≤ m ∧ i = .int .i64 k ∧ Kp (J (ns.take k) wr) ∧ Kp (KpB n0 B t w3 wr)) (fun _ _ _ i _ => m - (intOf i).toNat)
      case atStart => exact ⟨0, Nat.zero_le _, rfl, hj1, ⟨KpB.refl _⟩⟩
      case round =>
        obtain ⟨k, hk, rfl, HJK, HKB⟩ := hrel
        by_cases hlt : k < m
        · have hkn : k < ns.length := by rw [← HM.out]; exact hlt
          obtain ⟨g, rfl⟩ : ∃ g, A = some ⟨g, 0, none⟩ := by
            cases A with
            | none => have h1 := (HS0.out rfl).1; have := nms_len ns; rw [h1] at this; simp at this; omega
            | some x => obtain ⟨g, rfl⟩ := HS1.out x rfl; exact ⟨g, rfl⟩
          have hgw : W.heap.size ≤ g := HF.out g rfl
          have ho2 : Own wr 9 eStr (.slice (some ⟨g, 0, none⟩) m c) (nms ns) := HKB.out.own HO3.out (fun g' hg' => by obtain rfl : g = g' := (by simpa [Value.ownBlock] using hg'); omega) (fun g' _ => hno1.out g')
          obtain ⟨x, hx⟩ : ∃ x, x = ns[k] := ⟨_, rfl⟩
          have hq : wr.cell? ⟨g, k, none⟩ = some (.string x.n) := by
            have h1 := ho2.elem k 0 (by rw [nms_len]; exact hkn) (by decide)
            rw [hx]; simpa [eStr, nms] using h1
          have hbw : Below n0 W wr := (HB3.out.mono hn1).trans HKB.out.below
          have hgr : IsN wr p a b ns := ⟨HG.out.g.heap (fun g hg => hbw.block g (HN0.out g hg)), HG.out.ok⟩
          have hsz : W.heap.size ≤ wr.heap.size := hbw.size
          have hlg : n0 ≤ wr.heap.size := Nat.le_trans hn1 hsz
          have bG : Boxed wr Bg 23 (.pointer (some ⟨p, 0, none⟩)) := HKB.out.cells Bg _ ((HB3.out.block Bg HBG.out.lt).trans HBG.out) rfl hBn (hno1.out Bg)
          have hgB := bG.lt
          have cG := bG.cell
          have cp := hgr.g.c0
          have hmem : x ∈ ns := by rw [hx]; exact List.getElem_mem hkn
          have hxs : x.n.size ≤ maxLen := by
            have h1 := (hgr.ok.good x hmem).1
            unfold okA at h1
            rw [Bool.and_eq_true, decide_eq_true_eq] at h1
            unfold maxLen; omega
          have hl0 : (Instr.lookup 51 (.map (some a)) (.string x.n) true).run Tryd.prog wr = .ok (.tuple #[.int .i64 x.p, .bool true]) wr := by
            have h1 := hgr.g.ma.get_ok Tryd.underlying51 (z := .int .i64 0) (by kernel_rfl) x.n hxs
            rw [look_who, atN_mem hgr.ok hmem] at h1
            exact h1
          have hst : ns.take (k + 1) = ns.take k ++ [x] := by rw [List.take_succ_eq_append_getElem hkn, hx]
          have hll : (ns.take k).length < ns.length := by rw [List.length_take]; omega
          have k0 : (0 : Int) ≤ (k : Int) := by omega
          have k1 : (k : Int) < (m : Int) := by omega
          obtain ⟨fn, tmps, assign, body, hy, hR⟩ := HY.out _ x wr HJK.out hll
          unfold vE at hy
          have HBW := Kp.mk hbw
          have HST := Kp.mk hst
          have hin : 1 ≤ n - 1 := by omega
          have HRR := Kp.mk hR
          clear bG ho2 hbw hgr hmem hst hx hll hxs hR
          gi_wp2
          rename_i K9 hK9
          refine HRR.out.mono ?_
          rintro e W3 (⟨rfl, hJ3, hk3⟩ | ⟨rfl, hJx3⟩)
          · have HJ3 := Kp.mk hJ3
            have HK3 := Kp.mk hk3
            clear hJ3 hk3 hy
            refine hK9 _ _ ?_
            clear hK9
            gi_wp2
            go_roundw
            case rel => exact ⟨k + 1, by omega, by go_num, ⟨by rw [HST.out]; exact HJ3.out⟩, ⟨HKB.out.trans HK3.out⟩⟩
            case measure => simp [intOf]; omega
          · have HJX := Kp.mk hJx3
            clear hJx3 hy
            refine hK9 _ _ ?_
            clear hK9
            gi_wp2
            refine bodyPost_ret (results_none rfl _ _ _) rfl ?_
            exact ⟨⟨_, rfl⟩, .inr ⟨_, by rw [← HST.out]; exact List.take_prefix _ _, HJX.out⟩⟩
        · obtain rfl : k = m := by omega
          have hjj := HJK.out
          rw [List.take_of_length_le (by rw [HM.out]; exact Nat.le_refl _)] at hjj
          have HJJ := Kp.mk hjj
          clear hjj
          gi_wp2
          go_end0
          exact ⟨⟨_, rfl⟩, .inl ⟨_, rfl, HJJ.out⟩⟩
    · have hen' : (Instr.entry (.pointer (some ⟨W.heap.size, 0, none⟩))).run Tryd.prog w2 = .ok (.tuple #[.string x, v]) w2 := hen
      have hr' : (Instr.next (.pointer (some ⟨W.heap.size, 0, none⟩)) false 0).run Tryd.prog wr = .ok (.tuple #[.bool true, .string x, v]) w2 := hr
      obtain ⟨A, c, hv, _⟩ := HO.out.shape
      subst hv
      have hsl : seen.length ≤ 64 := by have := HR.out.len; rw [HWL.out] at this; omega
      have hne := HR.out.ne HO.out
      have ho2 : Own w2 9 eStr (.slice A seen.length c) seen := HO.out.frame hchg (fun g hg e => hne (by rw [hg, e]))
      have HO2 := Kp.mk ho2
      have HN2 := Kp.mk hrng
      have HC2 := Kp.mk hchg
      have HSZ := Kp.mk hsz
      have HLT := Kp.mk hlt
      have HNE := Kp.mk hne
      have hb2 : Below W.heap.size W w2 := chg_below HB.out hchg (fun g hg => by omega) HB.out.size
      have HB2 := Kp.mk hb2
      clear hrng hchg hsz hlt hok hlk hns hr hen hb2 hne
      gi_wp2_with (gi_at_builtin; refine app1_evIn T62 x rfl _ _ rfl ho2 rfl rfl rfl (by simp) rfl (by omega) (by omega) ?_; intro A' n' c' w3 a0 a1 a2 a3; have A0 := a0; have A1 := Kp.mk a1; have A2 := Kp.mk a2; have A3 := Kp.mk a3; clear a0 a1 a2 a3)
      go_roundw
      case rel =>
        refine ⟨seen ++ [x], ⟨HN2.out.frame A2.out (fun h => ?_) (fun h => ?_)⟩, A1, ⟨?_⟩, ⟨?_⟩, ⟨?_⟩⟩
        · have := HF.out _ h; omega
        · exact HNE.out h
        · exact (HF.out).app (by have := HB2.out.size; exact this) A3.out
        · exact chg_below HB2.out A2.out (fun g hg => HF.out g hg) HB2.out.size
        · have := A2.out.size; have := HSZ.out; have := HW.out; omega
      case measure =>
        have e := HN2.out.left A2.out (fun h => by have := HF.out _ h; omega) (fun h => HNE.out h)
        have := HLT.out
        rw [e]
        exact this
end Go.Proofs.YtmkfpaohlmejkaaDoor
