/- What Swap of package frame does: other words at the places that are set; for at most 1000 frames and 900000 slots. -/
import Derived.Test.YthdfmopbihpcoaaW
namespace Go.Proofs.Ythdfmopbihpcoaa
open Go.RowKit

def swapV (s : StM) (ws : List Int) : Int := if ws.length = (onW (cellsOf s)).length then 0 else 1
def SwapPost (w : World) (p : Nat) (fv sv : Value) (s : StM) (ws : List Int) (rs : List Rec) (e : Ending) (w' : World) : Prop :=
  e = .returned (.int .i64 (swapV s ws)) ∧ ((swapV s ws ≠ 0 ∧ Below w.heap.size w w') ∨ (swapV s ws = 0 ∧ IsSt w' p fv sv (swapM s ws) rs ∧ Chg (FS p fv sv) w w'))
def pick (ps : List Plc) (l : List Nat) : List Plc := l.map fun i => ps[i]?.getD (0, 0)
theorem pick_len (ps : List Plc) (l : List Nat) : (pick ps l).length = l.length := by simp [pick]
theorem pick_append (ps : List Plc) (a b : List Nat) : pick ps (a ++ b) = pick ps a ++ pick ps b := by simp [pick]
theorem fillM_snoc (s : StM) (l : List (Nat × Int)) (i : Nat) (u : Int) : fillM s (l ++ [(i, u)]) = (fillM s l).put i ⟨u, true⟩ := by simp [fillM]
theorem places_shp {s s' : StM} (p gs : Nat) (h : shp s'.fs = shp s.fs) : places p gs s' = places p gs s := by unfold places; rw [allY_shp h]
set_option maxHeartbeats 4000000 in
theorem swap_any (w : World) (p : Nat) (fv sv : Value) (s : StM) (rs : List Rec) (ws : List Int) (Aw : Option Addr) (cw : Nat) (hs : IsSt w p fv sv s rs) (hw : Own w 29 eU64 (.slice Aw ws.length cw) ws) (hn : s.fs.length ≤ 1000) (hny : (allY s.fs).length ≤ 900000) :
    Calls Try.prog 20 #[.pointer (some ⟨p, 0, none⟩), .slice Aw ws.length cw] w (SwapPost w p fv sv s ws rs) := by
  obtain ⟨gs, hgs⟩ : ∃ gs, gs = sv.ownBlock.getD 0 := ⟨_, rfl⟩
  have hg : ∀ g, sv.ownBlock = some g → g = gs := fun g hg => by rw [hgs, hg]; rfl
  clear hgs
  have HE := Kp.mk (each_any w p fv sv s rs gs hs hg hn (by omega))
  have HS := Kp.mk hs
  have HG := Kp.mk hg
  have HA := Kp.mk (hs.at hg)
  have HW := Kp.mk hw
  have hlenc : (cellsOf s).length = 16 + (allY s.fs).length := by simp [cellsOf, hs.x16]
  have hwl := hw.shape
  obtain ⟨_, cw2, hv2, hcw, _⟩ := hwl
  obtain rfl : cw = cw2 := by cases hv2; rfl
  obtain ⟨nw, hnw⟩ : ∃ nw, nw = ws.length := ⟨_, rfl⟩
  rw [← hnw] at hcw HW ⊢
  have HNW := Kp.mk hnw
  obtain ⟨cs, hcs⟩ : ∃ cs, cs = cellsOf s := ⟨_, rfl⟩
  obtain ⟨ps, hps⟩ : ∃ ps, ps = places p gs s := ⟨_, rfl⟩
  unfold EachPost at HE
  rw [← hcs] at HA hlenc
  rw [← hps] at HA HE
  have HCS := Kp.mk hcs
  have HPS := Kp.mk hps
  clear hs hg hw hcs hps hv2 hnw
  go_enter Try.func20, Try.ntmps20
  go_wp2_with (go_at_call 41; refine HE.out.mono ?_; rintro e w' ⟨v, rfl, hl⟩; obtain ⟨Av, cv, hv, hcv, _, hs0, hs1⟩ := hl.1.shape; subst hv)
  rw [HA.out.1, hlenc] at hcv
  rw [HA.out.1, hlenc]
  have HL := Kp.mk hl
  rw [HA.out.1, hlenc] at HL
  have HA2 := Kp.mk (HA.out.below hl.2.1)
  clear hl
  obtain ⟨gv, rfl⟩ : ∃ g, Av = some ⟨g, 0, none⟩ := by
    cases Av with
    | none => have h1 := (hs0 rfl).1; have h2 := HA.out.1; rw [h1, hlenc] at h2; simp at h2; omega
    | some x => obtain ⟨g, rfl⟩ := hs1 x rfl; exact ⟨g, rfl⟩
  clear hs0 hs1
  obtain ⟨m, hm⟩ : ∃ m, m = 16 + (allY s.fs).length := ⟨_, rfl⟩
  rw [← hm] at hlenc HL hcv ⊢
  have hmb : m ≤ 900016 := by omega
  clear hm
  have HLN := Kp.mk hlenc
  clear hlenc
  go_wp2
  go_loopw [5, 15] (fun l i wr => ∃ (j N : Nat) (A : Option Addr) (c : Nat), j ≤ m ∧ i = .int .i64 j ∧ l = .slice A N c ∧ Kp (N = (onIdx 0 (cs.take j)).length) ∧ Kp (Own wr 77 ePt l (pick ps (onIdx 0 (cs.take j)))) ∧ Kp (Fresh w' l) ∧ Kp (Below w'.heap.size w' wr) ∧ Kp (Own wr 77 ePt (.slice (some ⟨gv, 0, none⟩) m cv) ps)) (fun _ i _ => m - (intOf i).toNat)
  case atStart => exact ⟨0, 0, none, 0, Nat.zero_le _, rfl, rfl, ⟨rfl⟩, ⟨Own.nil _ _ _⟩, ⟨Fresh.nil _ _ _⟩, ⟨Below.refl _ _⟩, ⟨HL.out.1⟩⟩
  case round =>
    obtain ⟨j, N, A, c, hj, rfl, rfl, hN, ho, hf, hb, hp⟩ := hrel
    by_cases hlt : j < m
    · have hlr : j < ps.length := by rw [HA.out.1, HLN.out]; exact hlt
      have hlc : j < cs.length := by rw [HLN.out]; exact hlt
      have hq := hp.out.elem j 0 hlr (by decide)
      obtain ⟨⟨b, o⟩, hbo⟩ : ∃ x, x = ps[j] := ⟨_, rfl⟩
      obtain ⟨c0, hc0⟩ : ∃ x, x = cs[j] := ⟨_, rfl⟩
      rw [← hbo] at hq
      have hq' : wr.cell? ⟨gv, j, none⟩ = some (.pointer (some ⟨b, o, none⟩)) := by simpa [ePt] using hq
      have hpj : ps[j]? = some (b, o) := by rw [hbo]; exact List.getElem?_eq_getElem hlr
      obtain ⟨q1, q2, q3, q4⟩ := HA2.out.2 j b o c0 hpj (by rw [hc0]; exact List.getElem?_eq_getElem hlc)
      have hcon := (hb.out.cell (p := ⟨b, o + 1, none⟩) q4).trans q2
      have hst := onIdx_take cs j hlc
      rw [← hc0] at hst
      have HST := Kp.mk hst
      have HPJ := Kp.mk hpj
      have hlen : (onIdx 0 (cs.take j)).length = N := hN.out.symm
      have hNb : N ≤ j := by rw [← hlen, onIdx_len]; exact Nat.le_trans (onW_le _) (by simp; omega)
      have j0 : (0 : Int) ≤ (j : Int) := by omega
      have j1 : (j : Int) < (m : Int) := by omega
      have ho' : Own wr 77 ePt (.slice A N c) (pick ps (onIdx 0 (cs.take j))) := ho.out
      have HCON := Kp.mk hcon
      clear hq hbo hc0 q1 q2 q3 q4 hst hcon hpj
      cases hon : c0.on
      · have hcon := HCON.out
        rw [hon] at hcon
        go_wp2
        go_roundw
        case rel => exact ⟨j + 1, N, A, c, by omega, by go_num, rfl, ⟨by rw [HST.out, hon]; simpa using hN.out⟩, ⟨by rw [HST.out, hon]; simpa using ho.out⟩, hf, hb, hp⟩
        case measure => simp [intOf]; omega
      · have hcon := HCON.out
        rw [hon] at hcon
        go_wp2_with (at_builtin; refine app1_ev T75 (b, o) rfl _ _ rfl ho' rfl rfl rfl (by simp) rfl (by rw [pick_len, hlen]; omega) (by rw [pick_len, hlen]; omega) ?_; intro A' n' c' w1 a0 a1 a2 a3)
        go_roundw
        case rel => exact ⟨j + 1, n', A', c', by omega, by go_num, rfl, ⟨by rw [HST.out, hon, a0.out, pick_len]; simp⟩, ⟨by rw [HST.out, hon, if_pos rfl, pick_append]; simpa [pick, HPJ.out] using a1⟩, ⟨hf.out.app hb.out.size a3⟩, ⟨chg_below hb.out a2 (fun g hg => hf.out g hg) hb.out.size⟩, ⟨hp.out.frame a2 (fun g hg hF => by
          have h1 := hf.out g hF
          have h2 := HL.out.1.lt hg
          omega)⟩⟩
        case measure => simp [intOf]; omega
    · have htk : cs.take j = cs := List.take_of_length_le (by rw [HLN.out]; omega)
      rw [htk] at ho hN
      have hNb : N ≤ 900016 := by have h1 := hN.out; rw [onIdx_len] at h1; have h2 := onW_le cs; rw [HLN.out] at h2; omega
      have hjd : decide ((j : Int) < (m : Int)) = false := by simp; omega
      have hjf : ¬ ((j : Int) < (m : Int)) := by omega
      by_cases hne : nw = N
      · obtain ⟨zs, hzs⟩ : ∃ zs, zs = (onIdx 0 cs).zip ws := ⟨_, rfl⟩
        have hned : ((N : Int) != (nw : Int)) = false := by simp; omega
        have hnep : (N : Int) = (nw : Int) := by omega
        have e : Kp (swapV s ws = 0) := ⟨by unfold swapV; rw [if_pos (by rw [← HNW.out, ← HCS.out, ← onIdx_len 0, ← hN.out]; exact hne)]⟩
        have eM : Kp (swapM s ws = fillM s zs) := ⟨by unfold swapM; rw [← HCS.out, hzs]⟩
        have hbel : Below w.heap.size w wr := HL.out.2.1.trans (hb.out.mono HL.out.2.1.size)
        have hzl : zs.length = N := by rw [hzs, List.length_zip, ← HNW.out, ← hN.out]; omega
        have HZ := Kp.mk hzs
        have HZL := Kp.mk hzl
        have HBEL := Kp.mk hbel
        have HNE := Kp.mk hne
        have HSr := Kp.mk (HS.out.below hbel)
        have HWr := Kp.mk (HW.out.frame (Chg.of_below hbel NoF) (fun _ _ h => h))
        obtain ⟨W, hW⟩ : ∃ W, W = wr := ⟨_, rfl⟩
        have ho2 := ho.out
        have HN := hN
        rw [← hW] at HBEL HSr HWr ho2
        have HC0 : Kp (Chg (fun g => g = p ∨ sv.ownBlock = some g) W wr) := ⟨by rw [hW]; exact Chg.refl _ _⟩
        have HS0 : Kp (IsSt wr p fv sv s rs) := ⟨by rw [← hW]; exact HSr.out⟩
        have HO := Kp.mk ho2
        clear hzs hzl hbel hW hN ho ho2 hb hp hf hne
        go_wp2
        go_loopw [35] (fun i wr => ∃ (k : Nat), k ≤ N ∧ i = .int .i64 k ∧ Kp (IsSt wr p fv sv (fillM s (zs.take k)) rs) ∧ Kp (Chg (fun g => g = p ∨ sv.ownBlock = some g) W wr)) (fun i _ => N - (intOf i).toNat)
        case atStart => exact ⟨0, Nat.zero_le _, rfl, HS0, HC0⟩
        case round =>
          clear HS0 HC0
          obtain ⟨k, hk, rfl, hS, hC⟩ := hrel
          by_cases hlt2 : k < N
          · have hki : k < (onIdx 0 cs).length := by have := HN.out; omega
            have hkw : k < ws.length := by have h1 := HNW.out; have h2 := HNE.out; omega
            obtain ⟨c1, hc1, hon1⟩ := onIdx_on cs (onIdx 0 cs)[k] (List.getElem_mem _)
            obtain ⟨i, hi⟩ : ∃ i, i = (onIdx 0 cs)[k] := ⟨_, rfl⟩
            obtain ⟨u, hu⟩ : ∃ u, u = ws[k] := ⟨_, rfl⟩
            have hzk : zs.take (k + 1) = zs.take k ++ [(i, u)] := by
              rw [List.take_succ_eq_append_getElem (by rw [HZL.out]; exact hlt2)]
              congr 2
              simp [HZ.out, hi, hu]
            rw [← hi] at hc1
            have hx := HS.out.x16
            obtain ⟨f1, f2, f3⟩ := fillM_cells s hx (zs.take k)
            have hpl := places_shp p gs f3
            have hic : i < cs.length := (List.getElem?_eq_some_iff.1 hc1).1
            have hip : i < ps.length := by rw [HA.out.1]; exact hic
            obtain ⟨⟨b, o⟩, hbo⟩ : ∃ x, x = ps[i] := ⟨_, rfl⟩
            have hpi : ps[i]? = some (b, o) := by rw [hbo]; exact List.getElem?_eq_getElem hip
            obtain ⟨c2, hc2, hon2⟩ := fill_on cs (zs.take k) i c1 hc1 hon1
            rw [← HCS.out] at f1
            rw [← f1] at hc2
            have hpi2 : (places p gs (fillM s (zs.take k)))[i]? = some (b, o) := by rw [hpl, ← HPS.out]; exact hpi
            obtain ⟨hput, hown⟩ := hS.out.put HG.out i b o u c2 hpi2 hc2 hon2
            obtain ⟨a1, a2, a3, a4⟩ := (hS.out.at HG.out).2 i b o c2 hpi2 hc2
            have ho3 := HO.out.frame hC.out (fun g hg hF => by
              rcases hF with hF | hF
              · exact HO.out.ne HSr.out.blk (by decide) (by rw [← hF]; exact hg)
              · obtain ⟨cur, hcur⟩ := HSr.out.sl.blk' hF
                exact HO.out.ne hcur (by decide) hg)
            have hw3 := HWr.out.frame hC.out (fun g hg hF => by
              rcases hF with hF | hF
              · exact HWr.out.ne HSr.out.blk (by decide) (by rw [← hF]; exact hg)
              · obtain ⟨cur, hcur⟩ := HSr.out.sl.blk' hF
                exact HWr.out.ne hcur (by decide) hg)
            obtain ⟨gl, rfl⟩ : ∃ g, A = some ⟨g, 0, none⟩ := by
              obtain ⟨A2, c3, hv3, _, _, hs0, hs1⟩ := ho3.shape
              obtain rfl : A = A2 := by cases hv3; rfl
              cases A with
              | none => have h1 := (hs0 rfl).1; have h2 := pick_len ps (onIdx 0 cs); rw [h1] at h2; simp at h2; omega
              | some x => obtain ⟨g, rfl⟩ := hs1 x rfl; exact ⟨g, rfl⟩
            obtain ⟨gw, rfl⟩ : ∃ g, Aw = some ⟨g, 0, none⟩ := by
              obtain ⟨A2, c3, hv3, _, _, hs0, hs1⟩ := hw3.shape
              obtain rfl : Aw = A2 := by cases hv3; rfl
              cases Aw with
              | none => have h1 := (hs0 rfl).1; rw [h1] at hkw; simp at hkw
              | some x => obtain ⟨g, rfl⟩ := hs1 x rfl; exact ⟨g, rfl⟩
            have r1 : wr.cell? ⟨gl, k, none⟩ = some (.pointer (some ⟨b, o, none⟩)) := by
              have h1 := ho3.elem k 0 (by rw [pick_len]; exact hki) (by decide)
              have h2 : (pick ps (onIdx 0 cs))[k]'(by rw [pick_len]; exact hki) = (b, o) := by simp [pick, ← hi, hpi]
              rw [h2] at h1
              simpa [ePt] using h1
            have r2 : wr.cell? ⟨gw, k, none⟩ = some (.int .u64 u) := by
              have h1 := hw3.elem k 0 hkw (by decide)
              rw [← hu] at h1
              simpa [eU64] using h1
            have k0 : (0 : Int) ≤ (k : Int) := by omega
            have k1 : (k : Int) < (N : Int) := by omega
            have k2 : (k : Int) < (nw : Int) := by omega
            have k3 : k < nw := by omega
            rw [← fillM_snoc, ← hzk] at hput
            have HPUT := Kp.mk hput
            have HOWN := Kp.mk hown
            clear hput hown hc1 hon1 hi hu hzk f1 f2 f3 hpl hic hip hbo hpi hc2 hon2 hpi2 ho3 hw3 hki hkw hx
            go_wp2
            go_roundw
            case rel => exact ⟨k + 1, by omega, by go_num, HPUT, ⟨hC.out.set (p := ⟨b, o, none⟩) (.inl HOWN.out) _⟩⟩
            case measure => simp [intOf]; omega
          · have hkd : decide ((k : Int) < (N : Int)) = false := by simp; omega
            have hkf : ¬ ((k : Int) < (N : Int)) := by omega
            go_wp2
            go_ret
            refine ⟨by rw [e.out]; rfl, .inr ⟨e.out, ?_, (Chg.of_below HBEL.out (FS p fv sv)).then (hC.out.mono fun _ _ h => ?_)⟩⟩
            · rw [eM.out]
              have h1 := hS.out
              rw [List.take_of_length_le (by rw [HZL.out]; omega)] at h1
              exact h1
            · rcases h with h | h
              · exact .inl h
              · exact .inr (.inr h)
      · have hned : ((N : Int) != (nw : Int)) = true := by simp; omega
        have hnep : ¬ ((N : Int) = (nw : Int)) := by omega
        have e : Kp (swapV s ws = 1) := ⟨by unfold swapV; rw [if_neg (by rw [← HNW.out, ← HCS.out, ← onIdx_len 0, ← hN.out]; exact hne)]⟩
        go_wp2
        go_ret
        exact ⟨by rw [e.out]; rfl, .inl ⟨by rw [e.out]; decide, HL.out.2.1.trans (hb.out.mono HL.out.2.1.size)⟩⟩
end Go.Proofs.Ythdfmopbihpcoaa
