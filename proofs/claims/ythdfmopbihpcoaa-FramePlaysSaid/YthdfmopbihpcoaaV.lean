/- What All of package frame's function tells, round by round: the words that are set; for at most 1000 frames and 10^6 slots. -/
import Derived.Test.YthdfmopbihpcoaaU
import Derived.Test.YthdfmopbihpcoaaA
namespace Go.Proofs.Ythdfmopbihpcoaa
open Go.RowKit Go.Shelf
attribute [local go_sem] Oper.semAt_some

/-- The words that are set. -/
def onW : List Cl → List Int
  | [] => []
  | c :: l => if c.on then c.w :: onW l else onW l
def cellsOf (s : StM) : List Cl := s.x ++ allY s.fs
theorem onW_append (a b : List Cl) : onW (a ++ b) = onW a ++ onW b := by
  induction a with
  | nil => rfl
  | cons c a ih => simp only [List.cons_append, onW, ih]; split <;> rfl
theorem onW_le (a : List Cl) : (onW a).length ≤ a.length := by
  induction a with
  | nil => exact Nat.le_refl _
  | cons c a ih => simp only [onW]; split <;> simp <;> omega
theorem onW_take (l : List Cl) (j : Nat) (hj : j < l.length) : onW (l.take (j + 1)) = onW (l.take j) ++ (if l[j].on then [l[j].w] else []) := by
  rw [List.take_succ_eq_append_getElem hj, onW_append]
  rfl
/-- The cells are at their places. -/
def At (w : World) (ps : List Plc) (cs : List Cl) : Prop := ps.length = cs.length ∧ ∀ (i b o : Nat) (c : Cl), ps[i]? = some (b, o) → cs[i]? = some c → w.cell? ⟨b, o, none⟩ = some (.int .u64 c.w) ∧ w.cell? ⟨b, o + 1, none⟩ = some (.bool c.on) ∧ w.frozen? ⟨b, o, none⟩ = false ∧ b < w.heap.size
theorem row2_get (b n i : Nat) (hi : i < n) : (row2 b n)[i]? = some (b, i * 2) := by simp [row2, hi]
theorem IsSt.at {w : World} {p : Nat} {fv sv : Value} {s : StM} {rs : List Rec} {gs : Nat} (h : IsSt w p fv sv s rs) (hg : ∀ g, sv.ownBlock = some g → g = gs) : At w (places p gs s) (cellsOf s) := by
  refine ⟨by unfold places cellsOf; rw [List.length_append, List.length_append, row2_len, row2_len, h.x16], fun i b o c hp hc => ?_⟩
  unfold places at hp
  unfold cellsOf at hc
  by_cases hi : i < 16
  · rw [List.getElem?_append_left (by simpa [row2] using hi), row2_get _ _ _ hi] at hp
    rw [List.getElem?_append_left (by rw [h.x16]; exact hi)] at hc
    cases hp
    obtain ⟨h1, h2⟩ := h.cx i c hc
    exact ⟨h1, h2, h.fz _, lt_of_block h.blk⟩
  · rw [List.getElem?_append_right (by simp [row2]; omega), row2_len] at hp
    rw [List.getElem?_append_right (by rw [h.x16]; omega), h.x16] at hc
    obtain ⟨hk, rfl⟩ := List.getElem?_eq_some_iff.1 hc
    rw [row2_get _ _ _ hk] at hp
    cases hp
    obtain ⟨A, n, hv, _, _, h0, h1⟩ := h.sl.shape
    obtain ⟨g, rfl⟩ : ∃ g, A = some ⟨g, 0, none⟩ := by
      cases A with
      | none => have := (h0 rfl).1; rw [this] at hk; simp at hk
      | some x => obtain ⟨g, rfl⟩ := h1 x rfl; exact ⟨g, rfl⟩
    obtain rfl : g = gs := hg g (by rw [hv]; rfl)
    have ho := h.sl
    rw [hv] at ho
    exact ⟨ho.elem (i - 16) 0 hk (by decide), ho.elem (i - 16) 1 hk (by decide), ho.frozen _, lt_of_block ho.blk.choose_spec⟩
theorem At.below {w w' : World} {ps : List Plc} {cs : List Cl} (h : At w ps cs) (hb : Below w.heap.size w w') : At w' ps cs := ⟨h.1, fun i b o c hp hc => by
  obtain ⟨h1, h2, h3, h4⟩ := h.2 i b o c hp hc
  refine ⟨(hb.cell (p := ⟨b, o, none⟩) h4).trans h1, (hb.cell (p := ⟨b, o + 1, none⟩) h4).trans h2, ?_, Nat.lt_of_lt_of_le h4 hb.size⟩
  have := hb.block b h4
  simp only [World.frozen?, this] at h3 ⊢
  exact h3⟩
theorem KpB.chg {n0 B : Nat} {t : TypeId} {W W' : World} (h : KpB n0 B t W W') : Chg (fun g => g = B ∨ OwnedAt W B t g ∨ ∀ o, W.heap[g]? = some o → o.isCells = false) W W' :=
  ⟨h.below.os, h.below.tape, h.below.output, h.size, fun i hi hn => by
    obtain ⟨o, ho⟩ : ∃ o, W.heap[i]? = some o := ⟨_, Array.getElem?_eq_getElem hi⟩
    by_cases hc : o.isCells = true
    · rw [ho]
      exact h.cells i o ho hc (fun e => hn (.inl e)) (fun e => hn (.inr (.inl e)))
    · exact absurd (Or.inr (.inr fun o' ho' => by rw [ho] at ho'; cases ho'; simpa using hc)) hn⟩
theorem KpB.own {α : Type} {E : El α} {e : TypeId} {n0 B : Nat} {t : TypeId} {W W' : World} {v : Value} {l : List α} (h : KpB n0 B t W W') (ho : Own W e E v l) (hB : ∀ g, v.ownBlock = some g → g ≠ B) (hO : ∀ g, v.ownBlock = some g → ¬ OwnedAt W B t g) : Own W' e E v l :=
  ho.frame h.chg (fun g hg hF => by
    rcases hF with hF | hF | hF
    · exact hB g hg hF
    · exact hO g hg hF
    · obtain ⟨cur, hcur⟩ := ho.blk' hg
      have := hF _ hcur
      cases this)
theorem grown_below {W W' : World} (h : Below W.heap.size W W') : W.grownBy W' none := ⟨h.os, h.tape, h.output, h.size, fun k hk _ => h.block k hk⟩

set_option maxHeartbeats 4000000 in
theorem seq1_any (F : Fence) (n : Nat) (h41 : F.fn 41) (h47 : F.fn 47) (hro : F.round = none) (hn : 2 ≤ n) (W1 : World) (l Bn B n0 p gs : Nat) (fv sv : Value) (s : StM) (rs : List Rec) (J Jx : List Int → World → Prop)
    (heach : CallsIn F (n - 1) Try.prog 41 #[.pointer (some ⟨p, 0, none⟩)] W1 (EachPost W1 p gs s))
    (hS : IsSt W1 p fv sv s rs) (hg : ∀ g, sv.ownBlock = some g → g = gs) (hny : (allY s.fs).length ≤ 1000000) (hc1 : W1.cell? ⟨Bn, 0, none⟩ = some (.pointer (some ⟨p, 0, none⟩)))
    (hB : B < W1.heap.size) (hno : ∀ k, ¬ OwnedAt W1 B 23 k) (hJ : AbidesFrom W1.heap.size J)
    (hY : ∀ pre x W2, J pre W2 → pre.length < (onW (cellsOf s)).length → YieldAt F (n - 1) Try.prog l #[.int .u64 x] W2 fun e W' => (e = .returned (.bool true) ∧ J (pre ++ [x]) W' ∧ KpB n0 B 23 W2 W') ∨ (e = .returned (.bool false) ∧ Jx (pre ++ [x]) W'))
    (h0 : J [] W1) :
    CallsIn F n Try.prog 47 #[.func (.yield l) #[] #[], .pointer (some ⟨Bn, 0, none⟩)] W1 fun e W' => (∃ v, e = .returned v) ∧ ((∃ xs, xs = onW (cellsOf s) ∧ J xs W') ∨ (∃ pre, pre <+: onW (cellsOf s) ∧ Jx pre W')) := by
  have HE := Kp.mk heach
  have HS := Kp.mk hS
  have HA := Kp.mk (hS.at hg)
  have HJ := Kp.mk hJ
  have HY := Kp.mk hY
  have HNO := Kp.mk hno
  have H0 := Kp.mk h0
  have HC1 := Kp.mk hc1
  have hlenc : (cellsOf s).length = 16 + (allY s.fs).length := by simp [cellsOf, hS.x16]
  obtain ⟨cs, hcs⟩ : ∃ cs, cs = cellsOf s := ⟨_, rfl⟩
  obtain ⟨ps, hps⟩ : ∃ ps, ps = places p gs s := ⟨_, rfl⟩
  unfold EachPost at HE
  rw [← hcs] at HA HY hlenc ⊢
  rw [← hps] at HA HE
  obtain ⟨ws, hws⟩ : ∃ ws, ws = onW cs := ⟨_, rfl⟩
  rw [← hws] at HY ⊢
  have HWS := Kp.mk hws
  clear heach hS hJ hY hno h0 hg hcs hps hws
  refine callsIn_of_wp Try.func47 rfl h47 ?_ hro
  simp only [Try.ntmps47, List.size_toArray, List.length_cons, List.length_nil, Nat.reduceAdd, Nat.reduceSub, Array.replicate_succ, Array.replicate_zero, List.push_toArray, List.append_toArray, List.nil_append, List.cons_append]
  refine wpIn_scope_straight ?_
  have hn1 : 1 ≤ n := by omega
  gi_wp2_with (gi_at_call 41; refine HE.out.mono ?_; rintro e w' ⟨v, rfl, hl⟩; obtain ⟨Av, cv, hv, hcv, _, hs0, hs1⟩ := hl.1.shape; subst hv)
  rw [HA.out.1, hlenc] at hcv
  rw [HA.out.1, hlenc]
  have HL := Kp.mk hl
  rw [HA.out.1, hlenc] at HL
  have HA2 := Kp.mk (HA.out.below hl.2.1)
  clear hl
  obtain ⟨gv, rfl⟩ : ∃ g, Av = some ⟨g, 0, none⟩ := by
    cases Av with
    | none => have h1 := (hs0 rfl).1; have h2 := HA.out.1; rw [h1, hlenc] at h2; simp at h2; omega
    | some x => obtain ⟨g, rfl⟩ := hs1 x rfl; exact ⟨g, rfl⟩
  clear hs0 hs1
  obtain ⟨m, hm⟩ : ∃ m, m = 16 + (allY s.fs).length := ⟨_, rfl⟩
  rw [← hm] at hlenc HL hcv ⊢
  have hmb : m ≤ 1000016 := by omega
  clear hm hny
  have HLN := Kp.mk hlenc
  clear hlenc
  gi_wp2
  gi_loopw [3, 13] (fun l i wr => ∃ (j N : Nat) (A : Option Addr) (c : Nat), j ≤ m ∧ i = .int .i64 j ∧ l = .slice A N c ∧ Kp (N = (onW (cs.take j)).length) ∧ Kp (Own wr 29 eU64 l (onW (cs.take j))) ∧ Kp (Fresh w' l) ∧ Kp (Below w'.heap.size w' wr) ∧ Kp (Own wr 77 ePt (.slice (some ⟨gv, 0, none⟩) m cv) ps)) (fun _ i _ => m - (intOf i).toNat)
  case atStart => exact ⟨0, 0, none, 0, Nat.zero_le _, rfl, rfl, ⟨rfl⟩, ⟨Own.nil _ _ _⟩, ⟨Fresh.nil _ _ _⟩, ⟨Below.refl _ _⟩, ⟨HL.out.1⟩⟩
  case round =>
    obtain ⟨j, N, A, c, hj, rfl, rfl, hN, ho, hf, hb, hp⟩ := hrel
    by_cases hlt : j < m
    · have hlr : j < ps.length := by rw [HA.out.1, HLN.out]; exact hlt
      have hlc : j < cs.length := by rw [HLN.out]; exact hlt
      have hq := hp.out.elem j 0 hlr (by decide)
      obtain ⟨⟨b, o⟩, hbo⟩ : ∃ x, x = ps[j] := ⟨_, rfl⟩
      obtain ⟨c0, hc0⟩ : ∃ x, x = cs[j] := ⟨_, rfl⟩
      rw [← hbo] at hq
      have hq' : wr.cell? ⟨gv, j, none⟩ = some (.pointer (some ⟨b, o, none⟩)) := by simpa [ePt] using hq
      obtain ⟨q1, q2, q3, q4⟩ := HA2.out.2 j b o c0 (by rw [hbo]; exact List.getElem?_eq_getElem hlr) (by rw [hc0]; exact List.getElem?_eq_getElem hlc)
      have hcw := (hb.out.cell (p := ⟨b, o, none⟩) q4).trans q1
      have hcon := (hb.out.cell (p := ⟨b, o + 1, none⟩) q4).trans q2
      have hst := onW_take cs j hlc
      rw [← hc0] at hst
      have HST := Kp.mk hst
      have hlen : (onW (cs.take j)).length = N := hN.out.symm
      have hNb : N ≤ j := by rw [← hlen]; exact Nat.le_trans (onW_le _) (by simp; omega)
      have j0 : (0 : Int) ≤ (j : Int) := by omega
      have j1 : (j : Int) < (m : Int) := by omega
      have ho' : Own wr 29 eU64 (.slice A N c) (onW (cs.take j)) := ho.out
      have HCON := Kp.mk hcon
      clear hq hbo hc0 q1 q2 q3 q4 hst hcon hc1
      cases hon : c0.on
      · have hcon := HCON.out
        rw [hon] at hcon
        gi_wp2
        go_roundw
        case rel => exact ⟨j + 1, N, A, c, by omega, by go_num, rfl, ⟨by rw [HST.out, hon]; simpa using hN.out⟩, ⟨by rw [HST.out, hon]; simpa using ho.out⟩, hf, hb, hp⟩
        case measure => simp [intOf]; omega
      · have hcon := HCON.out
        rw [hon] at hcon
        gi_wp2_with (gi_at_builtin; refine app1_evIn T23 c0.w rfl _ _ rfl ho' rfl rfl rfl (by simp) rfl (by rw [hlen]; omega) (by rw [hlen]; omega) ?_; intro A' n' c' w1 a0 a1 a2 a3)
        go_roundw
        case rel => exact ⟨j + 1, n', A', c', by omega, by go_num, rfl, ⟨by rw [HST.out, hon]; simpa using a0.out⟩, ⟨by rw [HST.out, hon]; exact a1⟩, ⟨hf.out.app hb.out.size a3⟩, ⟨chg_below hb.out a2 (fun g hg => hf.out g hg) hb.out.size⟩, ⟨hp.out.frame a2 (fun g hg hF => by
          obtain ⟨cur, hcur⟩ := hp.out.blk' hg
          exact ho.out.ne hcur (by decide) hF)⟩⟩
        case measure => simp [intOf]; omega
    · have htk : cs.take j = cs := List.take_of_length_le (by rw [HLN.out]; omega)
      rw [htk, ← HWS.out] at ho hN
      have hbW : Below W1.heap.size W1 wr := HL.out.2.1.trans (hb.out.mono HL.out.2.1.size)
      have hJ0 : J [] wr := HJ.out [] W1 wr none H0.out (grown_below hbW) (fun r e => by cases e)
      have hno : ∀ k, OwnedAt wr B 23 k → wr.heap.size ≤ k := fun k hk => absurd (owned_kept (hbW.block B hB) k hk) (HNO.out k)
      obtain ⟨M, hM⟩ : ∃ M, M = wr.heap.size := ⟨_, rfl⟩
      have hMl : M ≤ wr.heap.size := by omega
      have hgl : Kp (∀ g, (Value.slice A N c).ownBlock = some g → g < M ∧ g ≠ B) := ⟨fun g hg => by
        obtain ⟨cur, hcur⟩ := ho.out.blk' hg
        have h1 := hf.out g hg
        have h2 := HL.out.2.1.size
        exact ⟨by rw [hM]; exact lt_of_block hcur, by omega⟩⟩
      rw [← hM] at hno
      have HNO2 := Kp.mk hno
      have HJ0 := Kp.mk hJ0
      have HMl := Kp.mk hMl
      have HN := hN
      have hNb : N ≤ 1000016 := by have h1 := hN.out; have h2 := onW_le cs; rw [← HWS.out, HLN.out] at h2; omega
      have hjd : decide ((j : Int) < (m : Int)) = false := by simp; omega
      have hjf : ¬ ((j : Int) < (m : Int)) := by omega
      clear hM htk hno hJ0 hMl hbW hf hb hp hc1
      gi_wp2
      refine wpIn_label ?_
      gi_wp2
      gi_loopw [31] (fun i wr => ∃ (k : Nat), k ≤ N ∧ i = .int .i64 k ∧ Kp (J (ws.take k) wr) ∧ Kp (Own wr 29 eU64 (.slice A N c) ws) ∧ Kp (∀ k, OwnedAt wr B 23 k → M ≤ k) ∧ Kp (M ≤ wr.heap.size)) (fun i _ => N - (intOf i).toNat)
      case atStart => exact ⟨0, Nat.zero_le _, rfl, by simpa using HJ0, ho, HNO2, HMl⟩
      case round =>
        clear HJ0 HNO2 HMl ho hN
        obtain ⟨k, hk, rfl, hJk, ho, hno, hM⟩ := hrel
        by_cases hlt2 : k < N
        · have hlw : k < ws.length := by have := HN.out; omega
          obtain ⟨A2, c2, hv2, _, _, hs0, hs1⟩ := ho.out.shape
          obtain ⟨rfl, rfl⟩ : A = A2 ∧ c = c2 := by cases hv2; exact ⟨rfl, rfl⟩
          obtain ⟨g, rfl⟩ : ∃ g, A = some ⟨g, 0, none⟩ := by
            cases A with
            | none => have h1 := (hs0 rfl).1; rw [h1] at hlw; simp at hlw
            | some x => obtain ⟨g, rfl⟩ := hs1 x rfl; exact ⟨g, rfl⟩
          have hq : wr.cell? ⟨g, k, none⟩ = some (.int .u64 ws[k]) := by simpa [eU64] using ho.out.elem k 0 hlw (by decide)
          obtain ⟨x, hx⟩ : ∃ x, x = ws[k] := ⟨_, rfl⟩
          have hst := List.take_succ_eq_append_getElem hlw
          rw [← hx] at hq hst
          have HST := Kp.mk hst
          obtain ⟨fn, tmps, assign, body, hy, hR⟩ := HY.out (ws.take k) x wr hJk.out (by rw [List.length_take]; omega)
          have k0 : (0 : Int) ≤ (k : Int) := by omega
          have k1 : (k : Int) < (N : Int) := by omega
          clear hv2 hs0 hs1 hx hst
          gi_wp2
          refine hR.mono ?_
          rintro e W3 (⟨rfl, hJ3, hk3⟩ | ⟨rfl, hJx3⟩)
          · have ho3 := hk3.own ho.out (fun g hg => (hgl.out g hg).2) (fun g hg ho => by have h1 := hno.out g ho; have h2 := (hgl.out g hg).1; omega)
            have hno3 : ∀ k, OwnedAt W3 B 23 k → M ≤ k := fun k hk => by
              rcases hk3.owned k hk with h | h
              · exact hno.out k h
              · exact Nat.le_trans hM.out h
            have hM3 : M ≤ W3.heap.size := Nat.le_trans hM.out hk3.size
            rw [← HST.out] at hJ3
            have HJ3 := Kp.mk hJ3
            have HO3 := Kp.mk ho3
            have HNO3 := Kp.mk hno3
            have HM3 := Kp.mk hM3
            clear ho3 hno3 hM3 hk3 hJ3
            gi_wp2
            go_roundw
            case rel => exact ⟨k + 1, by have := HN.out; omega, by go_num, HJ3, HO3, HNO3, HM3⟩
            case measure => simp [intOf]; have := HN.out; omega
          · have HJX := Kp.mk hJx3
            clear hJx3
            gi_wp2
            rw [Exit.noGoto_normal]
            refine bodyPost_end (results_none rfl _ _ _) rfl ?_
            exact ⟨⟨_, rfl⟩, .inr ⟨_, by rw [← HST.out]; exact List.take_prefix _ _, HJX.out⟩⟩
        · have hkd : decide ((k : Int) < (N : Int)) = false := by simp; omega
          have hkf : ¬ ((k : Int) < (N : Int)) := by omega
          gi_wp2
          refine bodyPost_end (results_none rfl _ _ _) rfl ?_
          refine ⟨⟨_, rfl⟩, .inl ?_⟩
          have h1 := hJk.out
          rw [List.take_of_length_le (by have := HN.out; omega)] at h1
          exact h1
theorem seq_any (W : World) (p gs B Bn n0 : Nat) (fv sv : Value) (s : StM) (rs : List Rec) (hS : IsSt W p fv sv s rs) (hg : ∀ g, sv.ownBlock = some g → g = gs) (hn : s.fs.length ≤ 1000) (hny : (allY s.fs).length ≤ 1000000)
    (hBn : Bn < W.heap.size) (hc : W.cell? ⟨Bn, 0, none⟩ = some (.pointer (some ⟨p, 0, none⟩))) (hB : B < W.heap.size) (hno : ∀ k, ¬ OwnedAt W B 23 k) :
    SeqStopsK Fence.wide 9 Try.prog 47 #[.pointer (some ⟨Bn, 0, none⟩)] (fun x : Int => #[Value.int .u64 x]) (KpB n0 B 23) (fun ys => ys = onW (cellsOf s)) (fun pre => pre <+: onW (cellsOf s)) (onW (cellsOf s)).length W := fun l J Jx W1 hW hJ _ hY h0 =>
  seq1_any Fence.wide 9 trivial trivial rfl (by omega) W1 l Bn B n0 p gs fv sv s rs J Jx (callsIn_wide.2 (each_any W1 p fv sv s rs gs (hS.below hW) hg hn hny)) (hS.below hW) hg hny ((hW.cell (p := ⟨Bn, 0, none⟩) hBn).trans hc)
    (Nat.lt_of_lt_of_le hB hW.size) (fun k hk => hno k (owned_kept (hW.block B hB) k hk)) hJ hY h0
/-- What the law's all collects of a stack that is there. -/
theorem allOf_any (w : World) (p : Nat) (fv sv : Value) (s : StM) (rs : List Rec) (most : Int) (hS : IsSt w p fv sv s rs) (hn : s.fs.length ≤ 1000) (hny : (allY s.fs).length ≤ 900000) :
    Calls Try.prog 10 #[.pointer (some ⟨p, 0, none⟩), .int .i64 most] w (AllPost w most (onW (cellsOf s))) := by
  have hl : (onW (cellsOf s)).length ≤ 1000000 := by
    have h1 := onW_le (cellsOf s)
    have h2 : (cellsOf s).length = 16 + (allY s.fs).length := by simp [cellsOf, hS.x16]
    omega
  refine all_any w _ most _ hl (fun W B Bn hb hBn hc hB hno => ?_)
  exact seq_any W p (sv.ownBlock.getD 0) B Bn _ fv sv s rs (hS.below hb) (fun g hg => by rw [hg]; rfl) hn (by omega) hBn hc hB hno
end Go.Proofs.Ythdfmopbihpcoaa
