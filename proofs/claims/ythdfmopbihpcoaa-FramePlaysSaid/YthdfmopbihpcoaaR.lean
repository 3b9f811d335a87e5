/- What cut of package frame does: each frame's slots are cut out of the stack's anew; for at most 1000 frames. -/
import Derived.Test.YthdfmopbihpcoaaQ
namespace Go.Proofs.Ythdfmopbihpcoaa
open Go.RowKit

/-- A stack whose frames' own lists may be stale. -/
structure Pre (w : World) (p : Nat) (fv sv : Value) (s : StM) (rs : List Rec) : Prop where
  blk : w.heap[p]? = some (.cells (StC s.x fv sv) 60 (0, 0))
  x16 : s.x.length = 16
  f : Own w 54 eRec fv rs
  sl : Own w 57 eCl sv (allY s.fs)
  len : rs.length = s.fs.length
  same : ∀ (k : Nat) (r : Rec) (f : Fr), rs[k]? = some r → s.fs[k]? = some f → r.rt = f.rt ∧ r.size = f.size ∧ (f.y = none → r.n = 0)
theorem Pre.drew {w : World} {p : Nat} {fv sv : Value} {s : StM} {rs : List Rec} (h : Pre w p fv sv s rs) : Pre w.drew p fv sv s rs := ⟨h.blk, h.x16, h.f.drew, h.sl.drew, h.len, h.same⟩
/-- The first j have been cut. -/
def CutTo (sv : Value) (fs : List Fr) (rs : List Rec) (j : Nat) : Prop :=
  ∀ (k : Nat) (r : Rec) (f : Fr), k < j → rs[k]? = some r → fs[k]? = some f → r.n = f.cl.length ∧ (f.cl ≠ [] → ∃ g, sv.ownBlock = some g ∧ r.A = some ⟨g, (allY (fs.take k)).length * 2, none⟩)
theorem allY_take (fs : List Fr) (j : Nat) (hj : j < fs.length) : allY (fs.take (j + 1)) = allY (fs.take j) ++ fs[j].cl := by
  rw [List.take_succ_eq_append_getElem hj, allY_append]
  simp [allY]
theorem allY_pre (fs : List Fr) (j : Nat) : (allY (fs.take j)).length ≤ (allY fs).length := by
  have h : allY fs = allY (fs.take j) ++ allY (fs.drop j) := by rw [← allY_append, List.take_append_drop]
  rw [h, List.length_append]; omega
def CutPost (w : World) (p : Nat) (fv sv : Value) (s : StM) (e : Ending) (w' : World) : Prop := (∃ v, e = .returned v) ∧ ∃ rs', IsSt w' p fv sv s rs' ∧ Chg (fun g => fv.ownBlock = some g) w w'
set_option maxHeartbeats 2000000 in
theorem cut_any (w : World) (p : Nat) (fv sv : Value) (s : StM) (rs : List Rec) (hs : Pre w p fv sv s rs) (hn : s.fs.length ≤ 1000) (hny : (allY s.fs).length ≤ 1000000) :
    Calls Try.prog 40 #[.pointer (some ⟨p, 0, none⟩)] w (CutPost w p fv sv s) := by
  obtain ⟨Af, cf, hfv, _, _, hf0, hf1⟩ := hs.f.shape
  rw [hs.len] at hfv
  obtain ⟨As, cs, hsv, hsc, _, hs0, hs1⟩ := hs.sl.shape
  have q32 : w.cell? ⟨p, 32, none⟩ = some fv := by rw [blk_c hs.blk]; exact (StC_f _ _ _ hs.x16).1
  rw [hfv] at q32
  have HFV := Kp.mk hfv
  have HSV := Kp.mk hsv
  have HF0 := Kp.mk hf0
  have HF1 := Kp.mk hf1
  have HS0 := Kp.mk hs0
  have HS1 := Kp.mk hs1
  have HP := Kp.mk hs
  have HSC := Kp.mk hsc
  have HLEN0 := Kp.mk hs.len
  clear hfv hsv hf0 hf1 hs0 hs1 hs hsc
  go_enter Try.func40, Try.ntmps40
  go_wp2
  go_loopw [2, 10] (fun at_ i wr => ∃ (j a : Nat) (rs' : List Rec), j ≤ s.fs.length ∧ i = .int .i64 j ∧ at_ = .int .i64 a ∧ Kp (a = (allY (s.fs.take j)).length) ∧ Kp (Pre wr p fv sv s rs') ∧ Kp (CutTo sv s.fs rs' j) ∧ Kp (Chg (fun g => fv.ownBlock = some g) w wr)) (fun _ i _ => s.fs.length - (intOf i).toNat)
  case atStart => exact ⟨0, 0, rs, Nat.zero_le _, rfl, rfl, ⟨rfl⟩, HP, ⟨fun k r f h => by omega⟩, ⟨Chg.refl _ _⟩⟩
  case round =>
    clear q32 HP
    obtain ⟨j, a, rs', hj, rfl, rfl, ha, hp, hcut, hc⟩ := hrel
    by_cases hlt : j < s.fs.length
    · have hlr : j < rs'.length := by rw [hp.out.len]; exact hlt
      obtain ⟨gf, rfl⟩ : ∃ gf, Af = some ⟨gf, 0, none⟩ := by
        cases Af with
        | none => have h1 := (HF0.out rfl).1; have h2 := HLEN0.out; rw [h1] at h2; simp at h2; omega
        | some x => obtain ⟨gf, rfl⟩ := HF1.out x rfl; exact ⟨gf, rfl⟩
      have hf : s.fs[j]? = some s.fs[j] := List.getElem?_eq_getElem hlt
      have hr : rs'[j]? = some rs'[j] := List.getElem?_eq_getElem hlr
      obtain ⟨k1, k2, k3⟩ := hp.out.same j _ _ hr hf
      have q32 : wr.cell? ⟨p, 32, none⟩ = some (.slice (some ⟨gf, 0, none⟩) s.fs.length cf) := by rw [← HFV.out, blk_c hp.out.blk]; exact (StC_f _ _ _ hp.out.x16).1
      have q33 : wr.cell? ⟨p, 33, none⟩ = some (.slice As (allY s.fs).length cs) := by rw [← HSV.out, blk_c hp.out.blk]; exact (StC_f _ _ _ hp.out.x16).2
      have hof : Own wr 54 eRec (.slice (some ⟨gf, 0, none⟩) s.fs.length cf) rs' := by rw [← HFV.out]; exact hp.out.f
      have r1 : wr.cell? ⟨gf, j * 3 + 1, none⟩ = some (.int .i64 rs'[j].size) := hof.elem j 1 hlr (by decide)
      have r2 : wr.cell? ⟨gf, j * 3 + 2, none⟩ = some (.slice rs'[j].A rs'[j].n rs'[j].c) := hof.elem j 2 hlr (by decide)
      have rf : wr.frozen? ⟨gf, j * 3 + 2, none⟩ = false := hof.frozen _
      have hat := allY_take s.fs j hlt
      have hle := allY_pre s.fs (j + 1)
      have HRJ : Kp (∀ x, x = rs'[j] → rs'[j]? = some x) := ⟨fun x hx => by rw [hx]; exact hr⟩
      obtain ⟨f, hfj⟩ : ∃ f, f = s.fs[j] := ⟨_, rfl⟩
      obtain ⟨r, hrj⟩ : ∃ r, r = rs'[j] := ⟨_, rfl⟩
      rw [← hfj] at k1 k2 k3 hat hf
      rw [← hrj] at k1 k2 k3 r1 r2 hr
      have j0 : (0 : Int) ≤ (j : Int) := by omega
      have j1 : (j : Int) < (s.fs.length : Int) := by omega
      have HF := Kp.mk hf
      have HR := Kp.mk hr
      have HRE := Kp.mk hrj
      have HAT := Kp.mk hat
      cases hy : f.y with
      | none =>
        have hsz : r.size = -1 := by rw [k2]; unfold Fr.size; rw [hy]
        rw [hsz] at r1
        have hcl : f.cl = [] := by unfold Fr.cl; rw [hy]; rfl
        have hrn := k3 hy
        have HN : Kp (a = (allY (s.fs.take (j + 1))).length) := ⟨by rw [HAT.out, hcl, List.append_nil]; exact ha.out⟩
        have HC : Kp (CutTo sv s.fs rs' (j + 1)) := ⟨fun k r' f' hk hr' hf' => by
          by_cases e : k = j
          · subst e
            rw [HR.out] at hr'
            rw [HF.out] at hf'
            cases hr'
            cases hf'
            exact ⟨by rw [hrn, hcl]; rfl, fun h => absurd hcl h⟩
          · exact hcut.out k r' f' (by omega) hr' hf'⟩
        clear hf hr k1 k2 k3 hat hfj hrj hy hsz hcl hrn HRJ
        go_wp2_with fail
        go_roundw
        case rel => exact ⟨j + 1, a, rs', by omega, by go_num, rfl, HN, hp, HC, hc⟩
        case measure => simp [intOf]; omega
      | some l =>
        obtain ⟨hfs, hfc⟩ := size_some hy
        rw [hfc] at hat
        have hsz : r.size = (l.length : Int) := by rw [k2, hfs]
        rw [hsz] at r1
        have hlen : (allY (s.fs.take (j + 1))).length = a + l.length := by rw [hat, List.length_append, ha.out]
        have hbound : a + l.length ≤ (allY s.fs).length := by rw [← hlen]; exact hle
        have hcs := HSC.out
        obtain ⟨n, hnn⟩ : ∃ n, n = l.length := ⟨_, rfl⟩
        rw [← hnn] at r1 hlen hbound
        have a0 : (0 : Int) ≤ (a : Int) := by omega
        have n0 : (0 : Int) ≤ (n : Int) := by omega
        have an : (a : Int) + (n : Int) ≤ (cs : Int) := by omega
        have an2 : (a : Int) ≤ (a : Int) + (n : Int) := by omega
        have an3 : a + n ≤ cs := by omega
        have an4 : a ≤ a + n := by omega
        have an5 : (a : Int) + (n : Int) ≤ 1000000 := by omega
        have e1 : a + n - a = n := by omega
        have HLN := Kp.mk hlen
        have HNN := Kp.mk hnn
        have HFC := Kp.mk hfc
        have HY := Kp.mk hy
        have K1 := Kp.mk k1
        have K2 := Kp.mk k2
        have hge : decide (0 ≤ (n : Int)) = true := by simp
        have hgeT : (0 : Int) ≤ (n : Int) := n0
        clear hf hr k1 k2 k3 hat hfj hrj hy hsz hfs hfc hlen hnn hcs HRJ hle
        have fin : ∀ (A2 : Option Addr), (n ≠ 0 → ∃ g, sv.ownBlock = some g ∧ A2 = some ⟨g, a * 2, none⟩) →
            Kp (Pre (wr.setCell ⟨gf, j * 3 + 2, none⟩ (.slice A2 n n)) p fv sv s (rs'.set j ⟨r.rt, r.size, A2, n, n⟩)) ∧ Kp (CutTo sv s.fs (rs'.set j ⟨r.rt, r.size, A2, n, n⟩) (j + 1)) := by
          intro A2 hA2
          have hg1 : fv.ownBlock = some gf := by rw [HFV.out]; rfl
          obtain ⟨cg, hcg⟩ := hp.out.f.blk' hg1
          have npg : p ≠ gf := fun e => by have := hp.out.blk; rw [e, hcg] at this; cases this
          have hset := hof.set hp.out.len.symm j 2 ⟨r.rt, r.size, A2, n, n⟩ (.slice A2 n n) hlr (by decide) (by rw [← HRE.out]; rfl)
          refine ⟨⟨⟨blk_set_ne hp.out.blk npg _, hp.out.x16, by rw [HFV.out]; exact hset, hp.out.sl.set_ne (hp.out.sl.ne hcg (by decide)) _, by simpa using hp.out.len, fun k r' f' hr' hf' => ?_⟩⟩, ⟨fun k r' f' hk hr' hf' => ?_⟩⟩
          · rw [List.getElem?_set] at hr'
            by_cases e : j = k
            · subst e
              rw [if_pos rfl, if_pos hlr] at hr'
              cases hr'
              rw [HF.out] at hf'
              cases hf'
              exact ⟨K1.out, K2.out, fun h => by rw [HY.out] at h; cases h⟩
            · rw [if_neg e] at hr'
              exact hp.out.same k r' f' hr' hf'
          · rw [List.getElem?_set] at hr'
            by_cases e : j = k
            · subst e
              rw [if_pos rfl, if_pos hlr] at hr'
              cases hr'
              rw [HF.out] at hf'
              cases hf'
              refine ⟨by rw [HFC.out]; exact HNN.out, fun hne => ?_⟩
              rw [← ha.out]
              exact hA2 (fun h0 => hne (by rw [HFC.out]; exact List.eq_nil_of_length_eq_zero (by rw [← HNN.out]; exact h0)))
            · rw [if_neg e] at hr'
              exact hcut.out k r' f' (by omega) hr' hf'
        have FIN := Kp.mk fin
        clear fin
        have HCH : ∀ A2 : Option Addr, Kp (Chg (fun g => fv.ownBlock = some g) w (wr.setCell ⟨gf, j * 3 + 2, none⟩ (.slice A2 n n))) := fun A2 => ⟨hc.out.set (p := ⟨gf, j * 3 + 2, none⟩) (.inl (by rw [HFV.out]; rfl)) _⟩
        have HCH' := Kp.mk HCH
        clear HCH
        have HN : Kp (a + n = (allY (s.fs.take (j + 1))).length) := ⟨HLN.out.symm⟩
        by_cases hn0 : n = 0
        · subst hn0
          go_wp2_with fail
          go_region
          go_wp2
          go_roundw
          case rel => exact ⟨j + 1, a, _, by omega, by go_num, rfl, ⟨by simpa using HN.out⟩, ⟨(FIN.out As (fun h => absurd rfl h)).1.out.drew⟩, (FIN.out As (fun h => absurd rfl h)).2, ⟨(HCH'.out As).out.drew⟩⟩
          case measure => simp [intOf]; omega
        · have hne : ¬ (a + n = a) := by omega
          go_wp2_with fail
          go_region
          go_wp2
          go_roundw
          case rel =>
            have hA2 : n ≠ 0 → ∃ g, sv.ownBlock = some g ∧ Option.map (fun (x : Addr) => x.add (a * 2)) As = some ⟨g, a * 2, none⟩ := fun _ => by
              cases As with
              | none =>
                have h1 := (HS0.out rfl).1
                rw [h1] at hbound
                simp at hbound
                omega
              | some x =>
                obtain ⟨gs, rfl⟩ := HS1.out x rfl
                exact ⟨gs, by rw [HSV.out]; rfl, by rw [Option.map_some, Addr.add_lit, Nat.zero_add]⟩
            exact ⟨j + 1, a + n, _, by omega, by go_num, by go_num, HN, ⟨(FIN.out _ hA2).1.out.drew⟩, (FIN.out _ hA2).2, ⟨(HCH'.out _).out.drew⟩⟩
          case measure => simp [intOf]; omega
    · have hle : s.fs.length ≤ j := by omega
      have hd : decide ((j : Int) < s.fs.length) = false := by simp; omega
      go_wp2_with fail
      go_end0
      refine ⟨⟨_, rfl⟩, rs', ⟨hp.out.blk, hp.out.x16, hp.out.f, hp.out.sl, hp.out.len, fun k r f hr hf => ?_⟩, hc.out⟩
      have hk := (List.getElem?_eq_some_iff.1 hf).1
      obtain ⟨a1, a2, _⟩ := hp.out.same k r f hr hf
      obtain ⟨b1, b2⟩ := hcut.out k r f (by omega) hr hf
      exact ⟨a1, a2, b1, b2⟩

end Go.Proofs.Ythdfmopbihpcoaa
