/- What down and Stop of parleyref29 answer; for at most 1000 children. -/
import Derived.Test.YtiedfckgkjcheaaRb
namespace Go.Proofs.Ytiedfckgkjcheaa
open Go.RowKit

def allB : Nat → Bool := fun _ => true
def yesC : Ch → Bool := fun _ => true
def downF (f : Nat) (i : Nat) (c : Ch) : Ch := if f ≤ i then setR false c else c
def FD (rv sv : Value) : Nat → Prop := fun k => rv.ownBlock = some k ∨ sv.ownBlock = some k
def DownPost (w : World) (q : Nat) (lv rv fv ev sv : Value) (s : SupM) (fg : List Bool) (f : Nat) (st0 : List Bool) (e : Ending) (w' : World) : Prop :=
  ∃ v l' st', e = .returned v ∧ Own w' 43 eAM v (dA s.l allB f) ∧ Fresh w v ∧ IsRef w' q lv rv fv ev { s with l := l' } fg ∧ Own w' 4 eBool sv st' ∧ PW s.l l' (downF f) ∧ PW st0 st' (agF s.l allB yesC f) ∧ Chg (FD rv sv) w w'

set_option maxHeartbeats 2000000 in
theorem down_any (w : World) (q : Nat) (lv rv fv ev sv : Value) (s : SupM) (fg : List Bool) (f : Nat) (st0 : List Bool) (A4 : Option Addr) (c4 : Nat) (hsv : sv = .slice A4 s.l.length c4) (hs : IsRef w q lv rv fv ev s fg) (ho : Own w 4 eBool sv st0)
    (hlen : st0.length = s.l.length) (hsr : ∀ g, sv.ownBlock = some g → rv.ownBlock ≠ some g) (hsf : ∀ g, sv.ownBlock = some g → fv.ownBlock ≠ some g) (hn : s.l.length ≤ 1000) (hf : f ≤ s.l.length) :
    Calls Try.prog 42 #[.pointer (some ⟨q, 0, none⟩), .int .i64 f, sv] w (DownPost w q lv rv fv ev sv s fg f st0) := by
  subst hsv
  obtain ⟨A1, c1, A2, c2, A3, c3, e1, e2, e3, hA⟩ := hs.shapes
  subst e1
  subst e2
  subst e3
  have hA4 : 0 < s.l.length → ∃ g, A4 = some ⟨g, 0, none⟩ := fun hl => by
    obtain ⟨A, c, e, _, _, n1, m1⟩ := ho.shape
    rw [hlen] at e
    cases e
    cases A4 with
    | none => have := (n1 rfl).1; rw [this] at hlen; simp at hlen; omega
    | some a => obtain ⟨g, rfl⟩ := m1 a rfl; exact ⟨g, rfl⟩
  have HA := Kp.mk hA
  have HA4 := Kp.mk hA4
  have HSR := Kp.mk hsr
  have HSF := Kp.mk hsf
  have HLEN := Kp.mk hlen
  clear hA hA4 hsr hsf hlen
  have h3 : w.cell? ⟨q, 3, none⟩ = some (.slice A1 s.l.length c1) := hs.c 3
  go_enter Try.func42, Try.ntmps42
  go_wp2
  go_loopw [7, 8] (fun v i wr => ∃ (j : Nat) (qq : Int) (l' : List Ch) (ag : List Bool), f ≤ j ∧ j ≤ s.l.length ∧ i = .int .i64 qq ∧ Kp (qq = (j : Int) - 1) ∧ PW s.l l' (fun i c => if j ≤ i then setR false c else c) ∧ PW st0 ag (agF s.l allB yesC j) ∧
    Own wr 43 eAM v (dA s.l allB j) ∧ Fresh w v ∧ IsRef wr q (.slice A1 s.l.length c1) (.slice A2 s.l.length c2) (.slice A3 s.l.length c3) ev { s with l := l' } fg ∧ Own wr 4 eBool (.slice A4 s.l.length c4) ag ∧ Chg (FD (.slice A2 s.l.length c2) (.slice A4 s.l.length c4)) w wr) (fun _ i _ => (intOf i + 1).toNat)
  case atStart =>
    refine ⟨s.l.length, _, s.l, st0, hf, Nat.le_refl _, rfl, ⟨rfl⟩, ⟨rfl, fun i c hc => ?_⟩, ⟨rfl, fun i b hb => ?_⟩, ?_, Fresh.nil _ _ _, hs, ho, Chg.refl _ _⟩
    · have := (List.getElem?_eq_some_iff.1 hc).1
      rw [if_neg (by omega)]; exact hc
    · unfold agF
      by_cases e : s.l.length ≤ i
      · rw [if_pos e, List.getElem?_eq_none_iff.2 e]; exact hb
      · rw [if_neg e]; exact hb
    · have : dA s.l allB s.l.length = [] := by unfold dA; rw [List.drop_eq_nil_of_le (by simp)]; rfl
      rw [this]; exact Own.nil _ _ _
  case round =>
    clear h3
    obtain ⟨j, qq, l', ag, hfj, hj, rfl, hq, hpw, hpa, hown, hfr, hsr, hxr, hcr⟩ := hrel
    have hll := Kp.mk hpw.len
    have hla := Kp.mk hpa.len
    by_cases hjf : j = f
    · subst hjf
      have hd : decide ((j : Int) ≤ qq) = false := by have := hq.out; simp; omega
      go_wp2
      go_ret
      exact ⟨_, l', ag, rfl, hown, hfr, hsr, hxr, hpw, hpa, hcr⟩
    · cases j with
      | zero => omega
      | succ m =>
        obtain rfl : qq = (m : Int) := by have := hq.out; omega
        clear hq
        have hfm : f ≤ m := by omega
        have hlt : m < s.l.length := by omega
        have hd : decide ((f : Int) ≤ (m : Int)) = true := by simp; omega
        have hd' : decide (f ≤ m) = true := by simp; omega
        clear hjf
        obtain ⟨g1, g2, g3, r1, r2, r3⟩ := HA.out (by omega)
        obtain ⟨g4, r4⟩ := HA4.out (by omega)
        subst r1
        subst r2
        subst r3
        subst r4
        have hlt' : m < l'.length := by rw [hll.out]; exact hlt
        have hlta : m < ag.length := by rw [hla.out, HLEN.out]; exact hlt
        have hx : l'[m]? = some s.l[m] := by
          have := hpw.at_ m _ (List.getElem?_eq_getElem hlt)
          rw [if_neg (by omega)] at this
          exact this
        have p3 : wr.cell? ⟨q, 3, none⟩ = some (.slice (some ⟨g1, 0, none⟩) s.l.length c1) := hsr.c 3
        have p4 : wr.cell? ⟨q, 4, none⟩ = some (.slice (some ⟨g2, 0, none⟩) s.l.length c2) := hsr.c 4
        have q0 := (hsr.kidc m _ hx).1
        have q2 := hsr.runc m _ hx
        have f2 : wr.frozen? ⟨g2, m, none⟩ = false := hsr.r.frozen _
        have qa : wr.cell? ⟨g4, m, none⟩ = some (.bool ag[m]) := by have := hxr.elem m 0 hlta (by decide); simpa [eBool] using this
        have fa : wr.frozen? ⟨g4, m, none⟩ = false := hxr.frozen _
        have hdA := dA_step s.l allB m hlt
        have hagf := agF_step s.l allB yesC m hlt
        have hlk := dA_len s.l allB (m + 1)
        obtain ⟨x, hxx⟩ : ∃ x, x = s.l[m] := ⟨_, rfl⟩
        rw [← hxx] at q0 q2 hdA hagf hx
        have HX := Kp.mk hxx
        have HX2 := Kp.mk hx
        have HD := Kp.mk hdA
        have HAG := Kp.mk hagf
        clear hxx hx hdA hagf
        have m0 : (0 : Int) ≤ (m : Int) := by omega
        have m1 : (m : Int) < (s.l.length : Int) := by omega
        cases hr : x.runs
        · rw [hr] at q2
          go_wp2
          go_roundw
          case rel =>
            refine ⟨m, _, l', ag, by omega, by omega, rfl, ⟨rfl⟩, hpw.ext fun i c hc => ?_, by rw [agF_skip s.l allB yesC m hlt (by rw [← HX.out, hr]; rfl)]; exact hpa, by rw [HD.out, hr]; simpa using hown, hfr, hsr, hxr, hcr⟩
            by_cases e : i = m
            · subst e
              rw [List.getElem?_eq_getElem hlt, ← HX.out] at hc
              cases hc
              rw [if_neg (by omega), if_pos (Nat.le_refl _)]
              rw [← hr]; rfl
            · by_cases e2 : m + 1 ≤ i
              · rw [if_pos e2, if_pos (by omega)]
              · rw [if_neg e2, if_neg (by omega)]
          case measure => simp only [intOf]; omega
        · rw [hr] at q2
          have hW := hsr.setRuns hll.out.symm m x HX2.out false
          have n42 : g4 ≠ g2 := fun e => HSR.out g4 rfl (by rw [e]; rfl)
          have n43 : g4 ≠ g3 := fun e => HSF.out g4 rfl (by rw [e]; rfl)
          obtain ⟨c9, hc9⟩ := hxr.blk
          have nq4 : q ≠ g4 := fun e => by have := hsr.blk; rw [e, hc9] at this; cases this
          have n14 : g1 ≠ g4 := fun e => by obtain ⟨cg, hcg⟩ := hsr.l.blk; rw [e, hc9] at hcg; cases hcg
          have nq2 : q ≠ g2 := fun e => hsr.r.ne hsr.blk (by decide) (by rw [e]; rfl)
          have n12 : g1 ≠ g2 := fun e => by obtain ⟨cg, hcg⟩ := hsr.r.blk; exact hsr.l.ne hcg (by decide) (by rw [e]; rfl)
          have hxW : Own (wr.setCell ⟨g2, m, none⟩ (.bool false)) 4 eBool (.slice (some ⟨g4, 0, none⟩) s.l.length c4) ag := hxr.set_ne (fun e => n42 (by simpa [Value.ownBlock] using e)) _
          have hxW2 : Own ((wr.setCell ⟨g2, m, none⟩ (.bool false)).setCell ⟨g4, m, none⟩ (.bool true)) 4 eBool (.slice (some ⟨g4, 0, none⟩) s.l.length c4) (ag.set m true) := by
            have := hxW.set (by rw [hla.out, HLEN.out]) m 0 true (.bool true) hlta (by decide) rfl
            simpa [eBool] using this
          have hW2 := hW.frame (chg_cell (wr.setCell ⟨g2, m, none⟩ (.bool false)) g4 m (.bool true)) nq4 (fun g' hg' e => n14 (by simp [Value.ownBlock] at hg'; omega)) (fun g' hg' e => n42 (by simp [Value.ownBlock] at hg'; omega)) (fun g' hg' e => n43 (by simp [Value.ownBlock] at hg'; omega))
            (fun g' hg' e => by
              obtain ⟨ce, hce⟩ := hW.e.blk' hg'
              obtain ⟨cx, hcx⟩ := hxW.blk
              rw [e, hcx] at hce; cases hce)
          have hown0 : Own (wr.setCell ⟨g2, m, none⟩ (.bool false)) 43 eAM u7 (dA s.l allB (m + 1)) := by
            obtain ⟨cur, hcur⟩ := hsr.r.blk
            exact hown.set_ne (hown.ne hcur (by decide)) _
          have hownW : Own ((wr.setCell ⟨g2, m, none⟩ (.bool false)).setCell ⟨g4, m, none⟩ (.bool true)) 43 eAM u7 (dA s.l allB (m + 1)) := by
            obtain ⟨cur, hcur⟩ := hxW.blk
            exact hown0.set_ne (hown0.ne hcur (by decide)) _
          have hcW := (hcr.set (p := ⟨g2, m, none⟩) (.inl (.inl rfl)) (.bool false)).set (p := ⟨g4, m, none⟩) (.inl (.inr rfl)) (.bool true)
          clear hc9
          go_wp2_with (at_builtin; refine app1_ev T28 ⟨false, x.name⟩ rfl _ _ rfl hownW rfl rfl rfl (by simp) rfl (by omega) (by omega) ?_; intro A' n' c' w4 a0 a1 a2 a3)
          go_roundw
          case rel =>
            refine ⟨m, _, l'.set m (setR false x), ag.set m true, by omega, by omega, rfl, ⟨rfl⟩, (hpw.set m hlt (setR false x)).ext fun i c hc => ?_, (hpa.set m (by rw [HLEN.out]; exact hlt) true).ext fun i b hb => ?_, by rw [HD.out, hr]; exact a1,
              hfr.app hcW.size a3, hW2.keep hownW (by decide) a2, hxW2.frame a2 (fun g' hg' hF => by obtain ⟨cur, hcur⟩ := hxW2.blk' hg'; exact hownW.ne hcur (by decide) hF), hcW.fresh hfr a2⟩
            · by_cases e : i = m
              · subst e
                rw [List.getElem?_eq_getElem hlt, ← HX.out] at hc
                cases hc
                rw [if_pos rfl, if_pos (Nat.le_refl _)]
              · rw [if_neg e]
                by_cases e2 : m + 1 ≤ i
                · rw [if_pos e2, if_pos (by omega)]
                · rw [if_neg e2, if_neg (by omega)]
            · rw [HAG.out, hr]
              by_cases e : i = m <;> simp [e, allB, yesC]
          case measure => simp only [intOf]; omega

/-! ### Stop -/
set_option maxHeartbeats 400000 in
theorem rstop_no (w : World) (q : Nat) (lv rv fv ev : Value) (s : SupM) (fg : List Bool) (hs : IsRef w q lv rv fv ev s fg) (h : s.sd = false ∨ s.ov = true) :
    Calls Try.prog 35 #[.pointer (some ⟨q, 0, none⟩)] w fun e w' => e = .returned (.tuple #[.slice none 0 0, .int .i64 250]) ∧ w = w' := by
  have h4 : w.cell? ⟨q, 8, none⟩ = some (.bool s.sd) := hs.c 8
  have h5 : w.cell? ⟨q, 9, none⟩ = some (.bool s.ov) := hs.c 9
  cases hd : s.sd
  · rw [hd] at h4
    go_enter Try.func35, Try.ntmps35
    go_wp2
    go_ret2
    exact ⟨rfl, rfl⟩
  · have ho : s.ov = true := by rcases h with h | h; rw [hd] at h; cases h; exact h
    rw [hd] at h4
    rw [ho] at h5
    go_enter Try.func35, Try.ntmps35
    go_wp2
    go_ret2
    exact ⟨rfl, rfl⟩

theorem downF_all {l l' : List Ch} (h : PW l l' (downF 0)) : l' = l.map (setR false) := by
  rw [(h.ext (g := fun _ c => setR false c) (fun i c _ => by unfold downF; rw [if_pos (Nat.zero_le _)])).eq]
  apply List.ext_getElem?; intro i; simp [List.getElem?_mapIdx]

def RStopPost (w : World) (q : Nat) (lv rv fv ev : Value) (s : SupM) (fg : List Bool) (e : Ending) (w' : World) : Prop :=
  ∃ v, e = .returned (.tuple #[v, .int .i64 0]) ∧ Own w' 43 eAM v (dA s.l allB 0) ∧ Fresh w v ∧ IsRef w' q lv rv fv ev { s with ov := true, l := s.l.map (setR false) } fg ∧ Chg (FR q rv) w w'

set_option maxHeartbeats 1000000 in
theorem rstop_yes (w : World) (q : Nat) (lv rv fv ev : Value) (s : SupM) (fg : List Bool) (hs : IsRef w q lv rv fv ev s fg) (hn : s.l.length ≤ 1000) (hd : s.sd = true) (ho : s.ov = false) :
    Calls Try.prog 35 #[.pointer (some ⟨q, 0, none⟩)] w (RStopPost w q lv rv fv ev s fg) := by
  have hs1 : IsRef (w.setCell ⟨q, 9, none⟩ (.bool true)) q lv rv fv ev { s with ov := true } fg := hs.setF 9 rfl rfl rfl
  have hc1 : Chg (FR q rv) w (w.setCell ⟨q, 9, none⟩ (.bool true)) := (Chg.refl _ w).set (p := ⟨q, 9, none⟩) (.inl (.inl rfl)) _
  obtain ⟨A1, c1, A2, c2, A3, c3, e1, e2, e3, hA⟩ := hs.shapes
  have E1 := Kp.mk e1
  clear hA e1 e2 e3
  have h4 : w.cell? ⟨q, 8, none⟩ = some (.bool s.sd) := hs.c 8
  have h5 : w.cell? ⟨q, 9, none⟩ = some (.bool s.ov) := hs.c 9
  have f5 : w.frozen? ⟨q, 9, none⟩ = false := hs.fz 9
  have h3 : w.cell? ⟨q, 3, none⟩ = some (.slice A1 s.l.length c1) := by rw [← E1.out]; exact hs.c 3
  rw [hd] at h4
  rw [ho] at h5
  have hplt := lt_of_block hs.blk
  go_enter Try.func35, Try.ntmps35
  go_wp2_with (at_make; refine mk_ev Try.underlying52 (e := 4) (z := .bool false) (by_ := 1) (by kernel_rfl) rfl (E := eBool) false rfl rfl rfl _ _ rfl s.l.length rfl rfl (by omega) (by omega) ?_; intro w4 m1 m2 m3; rw [show (w.setCell ⟨q, 9, none⟩ (.bool true)).heap.size = w.heap.size from by simp] at m1)
  have hs4 := hs1.frame m2 (fun h => h) (fun _ _ h => h) (fun _ _ h => h) (fun _ _ h => h) (fun _ _ h => h)
  have hrl : ∀ (v : Value) (T : TypeId) (l : List Bool), Own w T eBool v l → ∀ g, (Value.slice (some ⟨w.heap.size, 0, none⟩) s.l.length s.l.length).ownBlock = some g → v.ownBlock ≠ some g := by
    intro v T l ho g hg e
    have := ho.lt e
    have e9 : w.heap.size = g := by simpa [Value.ownBlock] using hg
    omega
  refine (down_any w4 q lv rv fv ev _ { s with ov := true } fg 0 (List.replicate s.l.length false) (some ⟨w.heap.size, 0, none⟩) s.l.length rfl hs4 m1 (by simp) (hrl _ _ _ hs.r) (hrl _ _ _ hs.f) hn (Nat.zero_le _)).mono ?_
  rintro e w5 ⟨v, l', st', rfl, o5, f5', s5, _, pl, _, c5⟩
  have el := downF_all pl
  go_wp2
  go_ret2
  rw [el] at s5
  refine ⟨v, rfl, o5, f5'.up (by have := m2.size; simpa using this), s5, ?_⟩
  exact (hc1.trans m2 (fun _ _ h => h.elim)).trans c5 (fun n hn h => by
    rcases h with h | h
    · exact .inr h
    · have e9 : w.heap.size = n := by simpa [Value.ownBlock] using h
      omega)

end Go.Proofs.Ytiedfckgkjcheaa
