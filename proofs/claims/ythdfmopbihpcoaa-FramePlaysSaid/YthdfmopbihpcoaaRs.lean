/- What Swap of parleyref21 answers; for at most 1000 frames and 900000 slots. -/
import Derived.Test.YthdfmopbihpcoaaRr
namespace Go.Proofs.Ythdfmopbihpcoaa
open Go.RowKit
variable {B : Bd}

theorem fill_off (cs : List Cl) (l : List (Nat × Int)) (i : Nat) (h : ∀ x ∈ l, x.1 ≠ i) : (fill cs l)[i]? = cs[i]? := by
  induction l generalizing cs with
  | nil => rfl
  | cons a l ih =>
    have h1 := ih (cs.set a.1 ⟨a.2, true⟩) (fun x hx => h x (by simp [hx]))
    rw [List.getElem?_set_ne (h a (by simp))] at h1
    exact h1
theorem onIdx_at (cs : List Cl) (j : Nat) (hj : j < cs.length) (hon : cs[j].on = true) : (onIdx 0 cs)[(onIdx 0 (cs.take j)).length]? = some j := by
  have h1 : onIdx 0 cs = onIdx 0 (cs.take (j + 1)) ++ onIdx (0 + (cs.take (j + 1)).length) (cs.drop (j + 1)) := by rw [← onIdx_append, List.take_append_drop]
  rw [h1, onIdx_take cs j hj, if_pos hon, List.append_assoc, List.getElem?_append_right (Nat.le_refl _), Nat.sub_self]
  rfl
set_option maxHeartbeats 4000000 in
theorem rswap_any (w : World) (q : Nat) (fv : Value) (s : StM) (rr : List RR) (ws : List Int) (Aw : Option Addr) (cw : Nat) (hs : IsRf B w q fv s rr) (hw : ∀ w', Chg (Ty B TR w) w w' → Src w' eU64 Aw cw ws) (hn : s.fs.length ≤ 1000) (hny : (allY s.fs).length ≤ 900000) :
    Calls Try.prog 46 #[.pointer (some ⟨q, 0, none⟩), .slice Aw ws.length cw] w (RPost B w q (.int .i64 (swapV s ws)) (swapM' s ws)) := by
  have HS := Kp.mk hs
  have HW := Kp.mk hw
  have hlenc : (cellsOf s).length = 16 + (allY s.fs).length := by simp [cellsOf, hs.x16]
  have HLC := Kp.mk hlenc
  have hol := onW_le (cellsOf s)
  obtain ⟨nw, hnw⟩ : ∃ nw, nw = ws.length := ⟨_, rfl⟩
  obtain ⟨no, hno⟩ : ∃ no, no = (onW (cellsOf s)).length := ⟨_, rfl⟩
  rw [← hnw]
  rw [← hno] at hol
  have HNW := Kp.mk hnw
  have HNO := Kp.mk hno
  have HALL := Kp.mk (rall_any w q fv s rr hs hn hny)
  unfold RAllPost at HALL
  rw [← hno] at HALL
  clear hs hw hnw hno hlenc
  go_enter Try.func46, Try.ntmps46
  go_wp2_with fail
  refine HALL.out.mono ?_
  rintro e w1 ⟨Ax, cx, rfl, ox, _, hb1⟩
  have HB1 := Kp.mk hb1
  have HS1 := Kp.mk (HS.out.below hb1)
  clear ox hb1 HALL
  by_cases hne : nw = no
  · have hned : ((nw : Int) != (no : Int)) = false := by simp; omega
    have e : Kp (swapV s ws = 0 ∧ swapM' s ws = swapM s ws) := ⟨by have h1 : swapV s ws = 0 := (by unfold swapV; rw [if_pos (by rw [← HNW.out, ← HNO.out]; exact hne)]); exact ⟨h1, by unfold swapM'; rw [if_pos h1]⟩⟩
    have HNE := Kp.mk hne
    clear hne
    obtain ⟨cs, hcs⟩ : ∃ cs, cs = cellsOf s := ⟨_, rfl⟩
    obtain ⟨ps, hps⟩ : ∃ ps, ps = rplaces q rr := ⟨_, rfl⟩
    have HCS := Kp.mk hcs
    have HPS := Kp.mk hps
    have HPL := Kp.mk (rplaces_any w1 q fv s rr HS1.out hn (by omega))
    unfold PlacesPost at HPL
    rw [← hps] at HPL
    have HA := Kp.mk HS1.out.at
    rw [← hcs, ← hps] at HA
    rw [← hcs] at HLC
    have HCL : Kp (ps.length = cs.length) := ⟨HA.out.1⟩
    clear hcs hps
    go_wp2_with fail
    refine HPL.out.mono ?_
    rintro e w2 ⟨v, rfl, hl⟩
    obtain ⟨Av, cv, hv, hcv, _, hs0, hs1⟩ := hl.1.shape
    subst hv
    obtain ⟨m, hm⟩ : ∃ m, m = ps.length := ⟨_, rfl⟩
    have hmb : m ≤ 900016 := by rw [hm, HCL.out, HLC.out]; omega
    have hm16 : 16 ≤ m := by rw [hm, HCL.out, HLC.out]; omega
    obtain ⟨gv, rfl⟩ : ∃ g, Av = some ⟨g, 0, none⟩ := by
      cases Av with
      | none => have h1 := (hs0 rfl).1; rw [h1] at hm; simp at hm; omega
      | some x => obtain ⟨g, rfl⟩ := hs1 x rfl; exact ⟨g, rfl⟩
    have HL := Kp.mk hl
    rw [← hm] at HL hcv ⊢
    have HM := Kp.mk hm
    clear hl hs0 hs1 hm
    have hbel : Below w.heap.size w w2 := bstep HB1.out HB1.out.size HL.out.2.1
    have HBEL := Kp.mk hbel
    have HS2 := Kp.mk (HS.out.below hbel)
    obtain ⟨zs, hzs⟩ : ∃ zs, zs = (onIdx 0 cs).zip ws := ⟨_, rfl⟩
    have HZ := Kp.mk hzs
    have HZL : Kp (zs.length = no) := ⟨by rw [hzs, List.length_zip, onIdx_len, HCS.out, ← HNO.out, ← HNW.out, HNE.out]; omega⟩
    have eM : Kp (swapM s ws = fillM s zs) := ⟨by unfold swapM; rw [← HCS.out, hzs]⟩
    clear hbel hzs
    go_wp2
    go_loopw [6, 7] (fun n i wr => ∃ (j N : Nat), j ≤ m ∧ i = .int .i64 j ∧ n = .int .i64 N ∧ Kp (N = (onIdx 0 (cs.take j)).length) ∧ Kp (IsRf B wr q fv (fillM s (zs.take N)) rr) ∧ Kp (Chg (Ty B TR w2) w2 wr)) (fun _ i _ => m - (intOf i).toNat)
    case atStart => exact ⟨0, 0, Nat.zero_le _, rfl, rfl, ⟨rfl⟩, HS2, ⟨Chg.refl _ _⟩⟩
    case round =>
      obtain ⟨j, N, hj, rfl, rfl, hN, hI, hC⟩ := hrel
      by_cases hlt : j < m
      · have hlr : j < ps.length := by rw [← HM.out]; exact hlt
        have hlc : j < cs.length := by rw [← HCL.out]; exact hlr
        have hp := HL.out.1.ty (L := TR) (by decide) hC.out
        have hq := hp.elem j 0 hlr (by decide)
        obtain ⟨⟨b, o⟩, hbo⟩ : ∃ x, x = ps[j] := ⟨_, rfl⟩
        rw [← hbo] at hq
        have hq' : wr.cell? ⟨gv, j, none⟩ = some (.pointer (some ⟨b, o, none⟩)) := by simpa [ePt] using hq
        have hpj : ps[j]? = some (b, o) := by rw [hbo]; exact List.getElem?_eq_getElem hlr
        have f1 := (fillM_cells s HS.out.x16 (zs.take N)).1
        rw [← HCS.out] at f1
        have hR := hI.out.at
        rw [← HPS.out, f1] at hR
        have hst := onIdx_take cs j hlc
        have hcj : cs[j]? = some cs[j] := List.getElem?_eq_getElem hlc
        have hNb : N ≤ j := by rw [hN.out, onIdx_len]; exact Nat.le_trans (onW_le _) (by simp; omega)
        have j0 : (0 : Int) ≤ (j : Int) := by omega
        have j1 : (j : Int) < (m : Int) := by omega
        cases hon : cs[j].on
        · have hoff : (fill cs (zs.take N))[j]? = cs[j]? := fill_off cs _ j fun x hx e => by
            have h1 : x.1 ∈ onIdx 0 cs := by
              have := List.mem_of_mem_take hx
              rw [HZ.out] at this
              exact (List.of_mem_zip (show (x.1, x.2) ∈ _ from this)).1
            obtain ⟨c', h2, h3⟩ := onIdx_on cs x.1 h1
            rw [e, hcj] at h2
            cases h2
            rw [hon] at h3
            cases h3
          rw [hcj] at hoff
          obtain ⟨q1, _, _, _⟩ := hR.2 j b o _ hpj hoff
          rw [hon] at q1 hst
          have HST := Kp.mk hst
          clear hq hbo hpj f1 hR hst hcj hoff hon hp
          go_wp2
          go_roundw
          case rel => exact ⟨j + 1, N, by omega, by go_num, rfl, ⟨by rw [HST.out]; simpa using hN.out⟩, hI, hC⟩
          case measure => simp [intOf]; omega
        · obtain ⟨c', hc', hon'⟩ := fill_on cs (zs.take N) j _ hcj hon
          obtain ⟨q1, q2, q3, q4⟩ := hR.2 j b o _ hpj hc'
          rw [hon'] at q1
          rw [hon, if_pos rfl] at hst
          have hat := onIdx_at cs j hlc hon
          rw [← hN.out] at hat
          have hNi : N < (onIdx 0 cs).length := (List.getElem?_eq_some_iff.1 hat).1
          have hNo : N < no := by rw [HNO.out, ← onIdx_len 0, ← HCS.out]; exact hNi
          have hNw : N < ws.length := by have h1 := HNW.out; have h2 := HNE.out; omega
          have hw3 := HW.out wr (Chg.ty (Chg.of_below HBEL.out _) hC.out)
          obtain ⟨gw, ow, rfl⟩ : ∃ g o, Aw = some ⟨g, o, none⟩ := by
            cases Aw with
            | none => have h1 := (hw3.none rfl).1; rw [h1] at hNw; simp at hNw
            | some x => obtain ⟨g, o, rfl⟩ := hw3.addr (by omega); exact ⟨g, o, rfl⟩
          obtain ⟨u, hu⟩ : ∃ u, u = ws[N] := ⟨_, rfl⟩
          have r2 : wr.cell? ⟨gw, ow + N, none⟩ = some (.int .u64 u) := by
            have h1 := hw3.elem N 0 hNw (by decide)
            rw [← hu] at h1
            simpa [eU64] using h1
          have hzk : zs.take (N + 1) = zs.take N ++ [(j, u)] := by
            rw [List.take_succ_eq_append_getElem (by rw [HZL.out]; exact hNo)]
            congr 2
            have h1 : (onIdx 0 cs)[N] = j := (List.getElem?_eq_some_iff.1 hat).2
            simp [HZ.out, h1, hu]
          obtain ⟨hput, hty⟩ := hI.out.put j b o u c' (by rw [← HPS.out]; exact hpj) (by rw [f1]; exact hc') hon'
          rw [← fillM_snoc, ← hzk] at hput
          have HPUT := Kp.mk hput
          have HTY := Kp.mk hty
          have HST := Kp.mk hst
          have n0 : (0 : Int) ≤ (N : Int) := by omega
          have n1 : (N : Int) < (nw : Int) := by have := HNE.out; omega
          have n2 : N < nw := by have := HNE.out; omega
          clear hq hbo hpj f1 hR hst hcj hon hp hc' hon' hat hNi hw3 hu hzk hput hty hNw
          go_wp2_with fail
          go_region
          all_goals go_wp2
          go_roundw
          case rel => exact ⟨j + 1, N + 1, by omega, by go_num, by go_num, ⟨by rw [HST.out, List.length_append, hN.out]; rfl⟩, ⟨HPUT.out.drew⟩, ⟨(Chg.ty hC.out ((Chg.refl (Ty B TR wr) wr).set (p := ⟨b, o + 1, none⟩) (.inl HTY.out) _)).drew⟩⟩
          case measure => simp [intOf]; omega
      · have hjd : decide ((j : Int) < (m : Int)) = false := by simp; omega
        have hjf : ¬ ((j : Int) < (m : Int)) := by omega
        have HJ : Kp (j = m) := ⟨by omega⟩
        go_wp2
        go_ret
        rw [e.out.1, e.out.2, eM.out]
        have h1 := hI.out
        have h2 : N = no := by
          rw [hN.out, List.take_of_length_le (by rw [← HCL.out, ← HM.out, HJ.out]; exact Nat.le_refl _), onIdx_len, HCS.out, ← HNO.out]
        rw [List.take_of_length_le (by rw [HZL.out, h2]; exact Nat.le_refl _)] at h1
        exact ⟨rfl, ⟨_, _, h1⟩, Chg.ty (Chg.of_below HBEL.out _) hC.out⟩
  · have hned : ((nw : Int) != (no : Int)) = true := by simp; omega
    have e : Kp (swapV s ws = 1 ∧ swapM' s ws = s) := ⟨by have h1 : swapV s ws = 1 := (by unfold swapV; rw [if_neg (by rw [← HNW.out, ← HNO.out]; exact hne)]); exact ⟨h1, by unfold swapM'; rw [h1]; rfl⟩⟩
    clear hne
    go_wp2
    go_ret
    rw [e.out.1, e.out.2]
    exact RPost.same HS.out HB1.out
end Go.Proofs.Ythdfmopbihpcoaa
