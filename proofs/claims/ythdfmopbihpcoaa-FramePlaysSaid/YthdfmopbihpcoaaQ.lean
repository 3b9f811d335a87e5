/- What Close, SetY and Y of package frame answer; for at most 1000 frames. -/
import Derived.Test.YthdfmopbihpcoaaP
namespace Go.Proofs.Ythdfmopbihpcoaa
open Go.RowKit

theorem Cuts.sv {sv sv' : Value} {fs : List Fr} {rs : List Rec} (h : Cuts sv fs rs) (e : sv'.ownBlock = sv.ownBlock) : Cuts sv' fs rs :=
  ⟨h.1, fun k r f hr hf => by
    obtain ⟨a, b, c, d⟩ := h.2 k r f hr hf
    exact ⟨a, b, c, fun hne => by rw [e]; exact d hne⟩⟩
theorem set_last {α : Type} (l : List α) (m : Nat) (h : l.length = m + 1) (x : α) : l.set m x = l.dropLast ++ [x] := by
  apply List.ext_getElem?
  intro j
  rw [List.getElem?_set, List.getElem?_append, List.length_dropLast, List.getElem?_dropLast]
  by_cases e : m = j
  · subst e
    rw [if_pos rfl, if_pos (by omega), if_neg (by omega), show m - (l.length - 1) = 0 by omega]; rfl
  · rw [if_neg e]
    by_cases h2 : j < l.length - 1
    · rw [if_pos h2, if_pos h2]
    · rw [if_neg h2, List.getElem?_eq_none_iff.2 (by omega), List.getElem?_eq_none_iff.2 (by simp; omega)]
theorem IsSt.sshape {w : World} {p : Nat} {fv sv : Value} {s : StM} {rs : List Rec} (h : IsSt w p fv sv s rs) : ∃ A c, sv = .slice A (allY s.fs).length c ∧ (allY s.fs).length ≤ c ∧ (A = none → allY s.fs = [] ∧ c = 0) ∧ (∀ a, A = some a → ∃ g, a = ⟨g, 0, none⟩) := by
  obtain ⟨A, c, hv, h1, _, h0, h2⟩ := h.sl.shape
  exact ⟨A, c, hv, h1, h0, h2⟩
theorem size_some {f : Fr} {l : List Cl} (h : f.y = some l) : f.size = l.length ∧ f.cl = l := by unfold Fr.size Fr.cl; rw [h]; exact ⟨rfl, rfl⟩

/-! ### Close -/
def closeV (s : StM) : Int := match s.fs.getLast? with | none => 192 | some f => match f.y with | none => 192 | some _ => 0
def closeM (s : StM) : StM := match s.fs.getLast? with | none => s | some f => { s with fs := s.fs.dropLast ++ [⟨f.rt, none⟩] }
def FS (p : Nat) (fv sv : Value) : Nat → Prop := fun g => g = p ∨ fv.ownBlock = some g ∨ sv.ownBlock = some g
def ClosePost (w : World) (p : Nat) (fv sv : Value) (s : StM) (e : Ending) (w' : World) : Prop :=
  e = .returned (.int .i64 (closeV s)) ∧ ((closeV s ≠ 0 ∧ Below w.heap.size w w') ∨ (closeV s = 0 ∧ ∃ sv' rs', IsSt w' p fv sv' (closeM s) rs' ∧ sv'.ownBlock = sv.ownBlock ∧ Chg (FS p fv sv) w w'))

theorem close_fin {w1 : World} {p g' m c : Nat} {sv sv' : Value} {s : StM} {rs : List Rec} {r : Rec} {rt : Int} (h : IsSt w1 p (.slice (some ⟨g', 0, none⟩) (m + 1) c) sv s rs) (hm : s.fs.length = m + 1) (hr : rs[m]? = some r) (hrt : r.rt = rt) (ho : Own w1 57 eCl sv' (allY s.fs.dropLast)) (he : sv'.ownBlock = sv.ownBlock) :
    IsSt (((w1.setCell ⟨p, 33, none⟩ sv').setCell ⟨g', m * 3 + 1, none⟩ (.int .i64 (-1))).setCell ⟨g', m * 3 + 2, none⟩ (.slice none 0 0)) p (.slice (some ⟨g', 0, none⟩) (m + 1) c) sv' { s with fs := s.fs.dropLast ++ [⟨rt, none⟩] } (rs.dropLast ++ [⟨rt, -1, none, 0, 0⟩]) := by
  have hl : rs.length = m + 1 := by rw [h.cut.1]; exact hm
  have hmr : m < rs.length := by omega
  have hrr : rs[m] = r := by rw [List.getElem?_eq_getElem hmr] at hr; exact Option.some.inj hr
  have npg : p ≠ g' := fun e => h.f.ne h.blk (by decide) (by rw [e]; rfl)
  obtain ⟨cg, hcg⟩ := h.f.blk
  have b1 := blk_set h.blk 33 sv'
  rw [StC_setS _ _ _ _ h.x16] at b1
  have b2 := blk_set_ne b1 npg (k := m * 3 + 1) (.int .i64 (-1))
  have b3 := blk_set_ne b2 npg (k := m * 3 + 2) (.slice none 0 0)
  have f1 := h.f.set_ne (q := p) (k := 33) (h.f.ne h.blk (by decide)) sv'
  have f2 := f1.set hl.symm m 1 { r with size := -1 } (.int .i64 (-1)) hmr (by decide) (by rw [hrr]; rfl)
  have f3 := f2.set (by simpa using hl.symm) m 2 ⟨r.rt, -1, none, 0, 0⟩ (.slice none 0 0) (by simpa using hmr) (by decide) (by simp [eRec])
  have o1 := ho.set_ne (q := p) (k := 33) (ho.ne h.blk (by decide)) sv'
  have c1 := f1.blk.choose_spec
  have o2 := o1.set_ne (q := g') (k := m * 3 + 1) (o1.ne c1 (by decide)) (.int .i64 (-1))
  have c2 := f2.blk.choose_spec
  have o3 := o2.set_ne (q := g') (k := m * 3 + 2) (o2.ne c2 (by decide)) (.slice none 0 0)
  refine ⟨b3, h.x16, ?_, ?_, ?_⟩
  · rw [List.set_set, set_last rs m hl, hrt] at f3
    exact f3
  · show Own _ 57 eCl sv' (allY (s.fs.dropLast ++ [⟨rt, none⟩]))
    rw [allY_append]
    have : allY [(⟨rt, none⟩ : Fr)] = [] := rfl
    rw [this, List.append_nil]
    exact o3
  · exact (h.cut.dropLast.snoc rt).sv he
set_option maxHeartbeats 2000000 in
theorem close_any (w : World) (p : Nat) (fv sv : Value) (s : StM) (rs : List Rec) (hs : IsSt w p fv sv s rs) (hn : s.fs.length ≤ 1000) (hny : (allY s.fs).length ≤ 1000000) :
    Calls Try.prog 19 #[.pointer (some ⟨p, 0, none⟩)] w (ClosePost w p fv sv s) := by
  have HS := Kp.mk hs
  clear hs
  go_enter Try.func19, Try.ntmps19
  go_wp2_with fail
  refine (last_any w p fv sv s rs HS.out hn).mono ?_
  rintro e w1 ⟨P, hP, rfl, hb⟩
  rcases hP with ⟨h0, rfl⟩ | ⟨m, g, hm, hg, rfl⟩
  · have e : Kp (closeV s = 192) := ⟨by unfold closeV; rw [List.eq_nil_of_length_eq_zero h0]; rfl⟩
    clear h0
    go_wp2
    go_ret
    exact ⟨by rw [e.out]; rfl, .inl ⟨by rw [e.out]; decide, hb⟩⟩
  · obtain ⟨r, f, hr, hf, hl, hsz, hrt⟩ := HS.out.top hm
    obtain ⟨A, c, hv, hA⟩ := HS.out.fshape
    obtain ⟨g', rfl⟩ := hA (by omega)
    rw [hm] at hv
    subst hv
    have eg : g' = g := by simpa [Value.ownBlock] using hg
    subst eg
    have HS1 := Kp.mk (HS.out.below hb)
    obtain ⟨q0, q1, q2⟩ := HS1.out.recc m r hr
    by_cases hy : f.y = none
    · have e : Kp (closeV s = 192) := ⟨by unfold closeV; rw [hl]; simp only [hy]⟩
      have hneg : r.size < 0 := by rw [hsz]; exact size_neg.2 hy
      clear hm hr hf hl hsz hrt hg hA hy
      go_wp2
      go_ret
      exact ⟨by rw [e.out]; rfl, .inl ⟨by rw [e.out]; decide, hb⟩⟩
    · obtain ⟨ly, hly⟩ : ∃ ly, f.y = some ly := by cases h : f.y; exact absurd h hy; exact ⟨_, rfl⟩
      obtain ⟨hfs, hfc⟩ := size_some hly
      have e : Kp (closeV s = 0) := ⟨by unfold closeV; rw [hl]; simp only [hly]⟩
      have eM : Kp (closeM s = { s with fs := s.fs.dropLast ++ [⟨f.rt, none⟩] }) := ⟨by unfold closeM; rw [hl]⟩
      have hay := allY_last hl
      rw [hfc] at hay
      obtain ⟨a, ha⟩ : ∃ a, a = (allY s.fs.dropLast).length := ⟨_, rfl⟩
      have hlen : (allY s.fs).length = a + ly.length := by rw [hay, List.length_append, ha]
      obtain ⟨As, cs, hsv, hsc, hs0, hs1⟩ := HS1.out.sshape
      rw [hlen] at hsv hsc hny
      have hrn : r.size = (ly.length : Int) := by rw [hsz, hfs]
      rw [hrn] at q1
      have qf := HS1.out.cs
      rw [hsv] at qf
      have qfz : w1.frozen? ⟨p, 33, none⟩ = false := HS1.out.fz _
      have z1 : w1.frozen? ⟨g', m * 3 + 1, none⟩ = false := HS1.out.f.frozen _
      have z2 : w1.frozen? ⟨g', m * 3 + 2, none⟩ = false := HS1.out.f.frozen _
      have npg : p ≠ g' := fun e => HS1.out.f.ne HS1.out.blk (by decide) (by rw [e]; rfl)
      obtain ⟨n, hnn⟩ : ∃ n, n = ly.length := ⟨_, rfl⟩
      rw [← hnn] at hlen hsv hsc hny q1 qf
      have hnd : decide ((n : Int) < 0) = false := by simp
      have e1 : ((a + n : Nat) : Int) - (n : Int) = (a : Int) := by omega
      have e2 : ((a : Int) + (n : Int)) - (n : Int) = (a : Int) := by omega
      have m0 : (0 : Int) ≤ (a : Int) := by omega
      have m1 : (a : Int) ≤ (cs : Int) := by omega
      have m2 : a ≤ cs := by omega
      have HRT : Kp (r.rt = f.rt) := ⟨hrt⟩
      have HM := Kp.mk hm
      have HL := Kp.mk hl
      have HR := Kp.mk hr
      have HAY := Kp.mk hay
      have HAA := Kp.mk ha
      have HSV := Kp.mk hsv
      have HLEN := Kp.mk hlen
      have HS0 := Kp.mk hs0
      have HS1' := Kp.mk hs1
      clear hm hr hf hl hsz hrt hg hA hy hly hfs hfc hay ha hlen hsv hs0 hs1 hrn hnn hsc
      -- the row behind
      have hown : Own w1 57 eCl (.slice As a cs) (allY s.fs.dropLast) := by
        have h1 := HS1.out.sl
        rw [HSV.out] at h1
        cases As with
        | none =>
          obtain ⟨h2, h3⟩ := HS0.out rfl
          have h4 : allY s.fs.dropLast = [] := by
            have := HAY.out
            rw [h2] at this
            exact (List.append_eq_nil_iff.1 this.symm).1
          have h5 : a = 0 := by rw [HAA.out, h4]; rfl
          rw [h4, h5, h3]
          exact Own.nil _ _ _
        | some x =>
          obtain ⟨gs, rfl⟩ := HS1'.out x rfl
          have h2 := h1.take a (by rw [HAY.out, List.length_append]; have := HAA.out; omega)
          have h3 : (allY s.fs).take a = allY s.fs.dropLast := by rw [HAY.out, HAA.out, List.take_left]
          rw [h3] at h2
          exact h2
      have HOWN := Kp.mk hown
      clear hown
      cases As with
      | none =>
        have hz : cs = 0 ∧ a = 0 ∧ n = 0 := by
          obtain ⟨h2, h3⟩ := HS0.out rfl
          have := HAY.out
          rw [h2] at this
          have h4 := (List.append_eq_nil_iff.1 this.symm).1
          have h5 : a = 0 := by rw [HAA.out, h4]; rfl
          have h6 : a + n = 0 := by rw [← HLEN.out, h2]; rfl
          omega
        obtain ⟨rfl, rfl, rfl⟩ := hz
        go_wp2_with fail
        go_region
        all_goals go_wp2
        go_ret
        have hfin := close_fin HS1.out HM.out HR.out HRT.out HOWN.out (by rw [HSV.out]; first | done | rfl)
        have hfin' := hfin.drew
        rw [← eM.out] at hfin'
        exact ⟨by rw [e.out]; rfl, .inr ⟨e.out, _, _, hfin', by rw [HSV.out]; first | done | rfl, ((((Chg.of_below hb (FS p (.slice (some ⟨g', 0, none⟩) (m + 1) c) sv)).set (p := ⟨p, 33, none⟩) (.inl (.inl rfl)) _).set (p := ⟨g', m * 3 + 1, none⟩) (.inl (.inr (.inl rfl))) _).set (p := ⟨g', m * 3 + 2, none⟩) (.inl (.inr (.inl rfl))) _).drew⟩⟩
      | some x =>
        obtain ⟨gs, rfl⟩ := HS1'.out x rfl
        go_wp2_with fail
        go_region
        all_goals go_wp2
        go_ret
        have hfin := close_fin HS1.out HM.out HR.out HRT.out HOWN.out (by rw [HSV.out]; first | done | rfl)
        have hfin' := hfin.drew
        rw [← eM.out] at hfin'
        exact ⟨by rw [e.out]; rfl, .inr ⟨e.out, _, _, hfin', by rw [HSV.out]; first | done | rfl, ((((Chg.of_below hb (FS p (.slice (some ⟨g', 0, none⟩) (m + 1) c) sv)).set (p := ⟨p, 33, none⟩) (.inl (.inl rfl)) _).set (p := ⟨g', m * 3 + 1, none⟩) (.inl (.inr (.inl rfl))) _).set (p := ⟨g', m * 3 + 2, none⟩) (.inl (.inr (.inl rfl))) _).drew⟩⟩

/-! ### SetY -/
def setYV (s : StM) (n : Int) : Int := match s.fs.getLast? with | none => 192 | some f => match f.y with | none => 192 | some l => if n < 0 ∨ (l.length : Int) ≤ n then 1 else 0
def setYM (s : StM) (n : Nat) (u : Int) : StM := match s.fs.getLast? with | none => s | some f => { s with fs := s.fs.dropLast ++ [⟨f.rt, f.y.map fun l => l.set n ⟨u, true⟩⟩] }
def SetYPost (w : World) (p : Nat) (fv sv : Value) (s : StM) (rs : List Rec) (n u : Int) (e : Ending) (w' : World) : Prop :=
  e = .returned (.int .i64 (setYV s n)) ∧ ((setYV s n ≠ 0 ∧ Below w.heap.size w w') ∨ (setYV s n = 0 ∧ IsSt w' p fv sv (setYM s n.toNat u) rs ∧ Chg (FS p fv sv) w w'))
theorem Cuts.setTop {sv : Value} {fs : List Fr} {rs : List Rec} (h : Cuts sv fs rs) {m : Nat} (hm : fs.length = m + 1) {f : Fr} (hf : fs[m]? = some f) {l l' : List Cl} (hy : f.y = some l) (hl : l'.length = l.length) : Cuts sv (fs.dropLast ++ [⟨f.rt, some l'⟩]) rs := by
  refine ⟨by simp [h.1]; omega, fun k r g hr hg => ?_⟩
  by_cases hk : k < m
  · rw [List.getElem?_append_left (by rw [List.length_dropLast]; omega), List.getElem?_dropLast, if_pos (by omega)] at hg
    have := h.2 k r g hr hg
    rw [List.take_append_of_le_length (by rw [List.length_dropLast]; omega), List.dropLast_eq_take, List.take_take, Nat.min_eq_left (by omega)]
    exact this
  · rw [List.getElem?_append_right (by rw [List.length_dropLast]; omega), List.length_dropLast] at hg
    have hk2 : k = m := by
      have := (List.getElem?_eq_some_iff.1 hg).1
      simp at this; omega
    subst hk2
    rw [show k - (fs.length - 1) = 0 by omega] at hg
    cases hg
    obtain ⟨a1, a2, a3, a4⟩ := h.2 k r f hr hf
    have c1 : f.cl = l := (size_some hy).2
    have s1 : f.size = l.length := (size_some hy).1
    refine ⟨a1, by rw [a2, s1]; show _ = ((l'.length : Nat) : Int); rw [hl], by rw [a3, c1]; exact hl.symm, fun hne => ?_⟩
    have hne' : f.cl ≠ [] := by
      rw [c1]
      intro e
      rw [e] at hl
      exact hne (List.eq_nil_of_length_eq_zero hl)
    rw [List.take_append_of_le_length (by rw [List.length_dropLast]; omega), List.dropLast_eq_take, List.take_take, Nat.min_eq_left (by omega)]
    exact a4 hne'
theorem setY_fin {w1 : World} {p gs ns cs n m : Nat} {fv : Value} {s : StM} {rs : List Rec} {f : Fr} {l : List Cl} (h : IsSt w1 p fv (.slice (some ⟨gs, 0, none⟩) ns cs) s rs) (hm : s.fs.length = m + 1) (hf : s.fs[m]? = some f) (hlast : s.fs.getLast? = some f) (hy : f.y = some l) (hn : n < l.length) (u : Int) (hns : ns = (allY s.fs).length) {off : Nat} (ho : off = (allY s.fs.dropLast).length) :
    IsSt ((w1.setCell ⟨gs, (off + n) * 2, none⟩ (.int .u64 u)).setCell ⟨gs, (off + n) * 2 + 1, none⟩ (.bool true)) p fv (.slice (some ⟨gs, 0, none⟩) ns cs) { s with fs := s.fs.dropLast ++ [⟨f.rt, some (l.set n ⟨u, true⟩)⟩] } rs := by
  have hay := allY_last hlast
  rw [(size_some hy).2] at hay
  have hi : off + n < (allY s.fs).length := by rw [hay, List.length_append]; omega
  obtain ⟨cg, hcg⟩ := h.sl.blk
  have npg : p ≠ gs := fun e => by have := h.blk; rw [e, hcg] at this; cases this
  have s1 := h.sl.set hns (off + n) 0 ⟨u, ((allY s.fs)[off + n]).on⟩ (.int .u64 u) hi (by decide) rfl
  have s2 := s1.set (by simpa using hns) (off + n) 1 ⟨u, true⟩ (.bool true) (by simpa using hi) (by decide) (by simp [eCl])
  rw [List.set_set] at s2
  have f1 := h.f.set_ne (q := gs) (k := (off + n) * 2) (h.f.ne hcg (by decide)) (.int .u64 u)
  have f2 := f1.set_ne (q := gs) (k := (off + n) * 2 + 1) (f1.ne s1.blk.choose_spec (by decide)) (.bool true)
  refine ⟨blk_set_ne (blk_set_ne h.blk npg _) npg _, h.x16, f2, ?_, h.cut.setTop hm hf hy (by simp)⟩
  show Own _ 57 eCl _ (allY (s.fs.dropLast ++ [⟨f.rt, some (l.set n ⟨u, true⟩)⟩]))
  rw [allY_append]
  have e1 : allY [(⟨f.rt, some (l.set n ⟨u, true⟩)⟩ : Fr)] = l.set n ⟨u, true⟩ := by simp [allY, Fr.cl]
  rw [e1]
  have e2 : (allY s.fs).set (off + n) ⟨u, true⟩ = allY s.fs.dropLast ++ l.set n ⟨u, true⟩ := by
    rw [hay, List.set_append_right _ _ (by omega), ← ho]
    congr 2
    omega
  rw [e2] at s2
  exact s2
set_option maxHeartbeats 2000000 in
theorem setY_any (w : World) (p : Nat) (fv sv : Value) (s : StM) (rs : List Rec) (n u : Int) (hs : IsSt w p fv sv s rs) (hn : s.fs.length ≤ 1000) :
    Calls Try.prog 17 #[.pointer (some ⟨p, 0, none⟩), .int .i64 n, .int .u64 u] w (SetYPost w p fv sv s rs n u) := by
  have HS := Kp.mk hs
  clear hs
  go_enter Try.func17, Try.ntmps17
  go_wp2_with fail
  refine (last_any w p fv sv s rs HS.out hn).mono ?_
  rintro e w1 ⟨P, hP, rfl, hb⟩
  rcases hP with ⟨h0, rfl⟩ | ⟨m, g, hm, hg, rfl⟩
  · have e : Kp (setYV s n = 192) := ⟨by unfold setYV; rw [List.eq_nil_of_length_eq_zero h0]; rfl⟩
    clear h0
    go_wp2
    go_ret
    exact ⟨by rw [e.out]; rfl, .inl ⟨by rw [e.out]; decide, hb⟩⟩
  · obtain ⟨r, f, hr, hf, hl, hsz, hrt⟩ := HS.out.top hm
    obtain ⟨A, c, hv, hA⟩ := HS.out.fshape
    obtain ⟨g', rfl⟩ := hA (by omega)
    rw [hm] at hv
    subst hv
    have eg : g' = g := by simpa [Value.ownBlock] using hg
    subst eg
    have HS1 := Kp.mk (HS.out.below hb)
    obtain ⟨q0, q1, q2⟩ := HS1.out.recc m r hr
    by_cases hy : f.y = none
    · have e : Kp (setYV s n = 192) := ⟨by unfold setYV; rw [hl]; simp only [hy]⟩
      have hneg : r.size < 0 := by rw [hsz]; exact size_neg.2 hy
      clear hm hr hf hl hsz hrt hg hA hy
      go_wp2
      go_ret
      exact ⟨by rw [e.out]; rfl, .inl ⟨by rw [e.out]; decide, hb⟩⟩
    obtain ⟨ly, hly⟩ : ∃ ly, f.y = some ly := by cases h : f.y; exact absurd h hy; exact ⟨_, rfl⟩
    obtain ⟨hfs, hfc⟩ := size_some hly
    have hrn : r.size = (ly.length : Int) := by rw [hsz, hfs]
    rw [hrn] at q1
    have hnd : decide ((ly.length : Int) < 0) = false := by simp
    have eV : Kp (setYV s n = if n < 0 ∨ (ly.length : Int) ≤ n then 1 else 0) := ⟨by unfold setYV; rw [hl]; simp only [hly]⟩
    have eM : Kp (setYM s n.toNat u = { s with fs := s.fs.dropLast ++ [⟨f.rt, some (ly.set n.toNat ⟨u, true⟩)⟩] }) := ⟨by unfold setYM; rw [hl]; simp only [hly]; rfl⟩
    by_cases hn0 : n < 0
    · have e : Kp (setYV s n = 1) := ⟨by rw [eV.out, if_pos (.inl hn0)]⟩
      clear hm hr hf hl hsz hrt hg hA hy hly hfs hfc hrn
      go_wp2
      go_ret
      exact ⟨by rw [e.out]; rfl, .inl ⟨by rw [e.out]; decide, hb⟩⟩
    have hn0d : decide (n < 0) = false := by simpa using hn0
    by_cases hn1 : (ly.length : Int) ≤ n
    · have e : Kp (setYV s n = 1) := ⟨by rw [eV.out, if_pos (.inr hn1)]⟩
      clear hm hr hf hl hsz hrt hg hA hy hly hfs hfc hrn
      go_wp2
      go_ret
      exact ⟨by rw [e.out]; rfl, .inl ⟨by rw [e.out]; decide, hb⟩⟩
    have hn1d : decide ((ly.length : Int) ≤ n) = false := by simpa using hn1
    have e : Kp (setYV s n = 0) := ⟨by rw [eV.out, if_neg (by omega)]⟩
    obtain ⟨k, rfl⟩ := Int.eq_ofNat_of_zero_le (show 0 ≤ n by omega)
    have hk : k < ly.length := by omega
    have hne : f.cl ≠ [] := by rw [hfc]; intro h; rw [h] at hk; simp at hk
    obtain ⟨a1, a2, a3, a4⟩ := HS1.out.cut.2 m r f hr hf
    obtain ⟨gs, hgs, hrA⟩ := a4 hne
    rw [hfc] at a3
    rw [hrA, a3] at q2
    obtain ⟨As, cs, hsv, hsc, hs0, hs1⟩ := HS1.out.sshape
    rw [hsv] at hgs
    cases As with
    | none => cases hgs
    | some x =>
    obtain ⟨g2, rfl⟩ := hs1 x rfl
    have eg2 : g2 = gs := by simpa [Value.ownBlock] using hgs
    subst eg2
    subst hsv
    have hoff : (allY (s.fs.take m)).length = (allY s.fs.dropLast).length := by rw [List.dropLast_eq_take, hm]; rfl
    obtain ⟨off, hof⟩ : ∃ off, off = (allY s.fs.dropLast).length := ⟨_, rfl⟩
    rw [hoff, ← hof] at q2
    have hFIN := setY_fin HS1.out hm hf hl hly hk u rfl hof
    have hi : off + k < (allY s.fs).length := by
      have := allY_last hl
      rw [hfc] at this
      rw [this, List.length_append, ← hof]; omega
    have z0 : w1.cell? ⟨g2, (off + k) * 2, none⟩ = some (.int .u64 ((allY s.fs)[off + k]).w) := HS1.out.sl.elem (off + k) 0 hi (by decide)
    have z1 : w1.cell? ⟨g2, (off + k) * 2 + 1, none⟩ = some (.bool ((allY s.fs)[off + k]).on) := HS1.out.sl.elem (off + k) 1 hi (by decide)
    have y0 : w1.frozen? ⟨g2, (off + k) * 2, none⟩ = false := HS1.out.sl.frozen _
    have y1 : w1.frozen? ⟨g2, (off + k) * 2 + 1, none⟩ = false := HS1.out.sl.frozen _
    have ea : (off + k) * 2 = off * 2 + k * 2 := Nat.add_mul _ _ _
    rw [ea] at z0 z1 y0 y1 hFIN
    obtain ⟨zc, hzc⟩ : ∃ zc, zc = (allY s.fs)[off + k] := ⟨_, rfl⟩
    rw [← hzc] at z0 z1
    clear hzc
    have k0 : (0 : Int) ≤ (k : Int) := by omega
    have k1 : (k : Int) < (ly.length : Int) := by omega
    have HFIN := Kp.mk hFIN
    clear hm hr hf hl hsz hrt hg hA hy hly hfs hfc hrn hk hne a1 a2 a3 a4 hgs hrA hs0 hs1 hsc hoff hof hFIN hi ea
    go_wp2
    go_ret
    exact ⟨by rw [e.out]; rfl, .inr ⟨e.out, by rw [eM.out, Int.toNat_natCast]; exact HFIN.out, ((Chg.of_below hb (FS p (.slice (some ⟨g', 0, none⟩) (m + 1) c) (.slice (some ⟨g2, 0, none⟩) (allY s.fs).length cs))).set (p := ⟨g2, off * 2 + k * 2, none⟩) (.inl (.inr (.inr rfl))) _).set (p := ⟨g2, off * 2 + k * 2 + 1, none⟩) (.inl (.inr (.inr rfl))) _⟩⟩

/-! ### Y -/
def getY (s : StM) (n : Int) : Int × Bool := match s.fs.getLast? with | none => (0, false) | some f => if n < 0 then (0, false) else match f.cl[n.toNat]? with | none => (0, false) | some c => (if c.on then c.w else 0, c.on)
set_option maxHeartbeats 2000000 in
theorem y_any (w : World) (p : Nat) (fv sv : Value) (s : StM) (rs : List Rec) (n : Int) (hs : IsSt w p fv sv s rs) (hn : s.fs.length ≤ 1000) :
    Calls Try.prog 27 #[.pointer (some ⟨p, 0, none⟩), .int .i64 n] w fun e w' => e = .returned (.tuple #[.int .u64 (getY s n).1, .bool (getY s n).2]) ∧ Below w.heap.size w w' := by
  have HS := Kp.mk hs
  clear hs
  go_enter Try.func27, Try.ntmps27
  go_wp2_with fail
  refine (last_any w p fv sv s rs HS.out hn).mono ?_
  rintro e w1 ⟨P, hP, rfl, hb⟩
  rcases hP with ⟨h0, rfl⟩ | ⟨m, g, hm, hg, rfl⟩
  · have e : Kp (getY s n = (0, false)) := ⟨by unfold getY; rw [List.eq_nil_of_length_eq_zero h0]; rfl⟩
    clear h0
    go_wp2
    go_ret2
    exact ⟨by rw [e.out]; rfl, hb⟩
  · obtain ⟨r, f, hr, hf, hl, hsz, hrt⟩ := HS.out.top hm
    obtain ⟨A, c, hv, hA⟩ := HS.out.fshape
    obtain ⟨g', rfl⟩ := hA (by omega)
    rw [hm] at hv
    subst hv
    have eg : g' = g := by simpa [Value.ownBlock] using hg
    subst eg
    have HS1 := Kp.mk (HS.out.below hb)
    obtain ⟨q0, q1, q2⟩ := HS1.out.recc m r hr
    by_cases hn0 : n < 0
    · have e : Kp (getY s n = (0, false)) := ⟨by unfold getY; rw [hl]; simp only [if_pos hn0]⟩
      clear hm hr hf hl hsz hrt hg hA
      go_wp2
      go_ret2
      exact ⟨by rw [e.out]; rfl, hb⟩
    have hn0d : decide (n < 0) = false := by simpa using hn0
    by_cases hn1 : r.size ≤ n
    · have e : Kp (getY s n = (0, false)) := ⟨by
        unfold getY
        rw [hl]
        simp only [if_neg hn0]
        have : f.cl[n.toNat]? = none := by
          rw [List.getElem?_eq_none_iff]
          rw [hsz] at hn1
          cases hy : f.y with
          | none => unfold Fr.cl; rw [hy]; simp
          | some l => rw [(size_some hy).1] at hn1; rw [(size_some hy).2]; omega
        rw [this]⟩
      clear hm hr hf hl hsz hrt hg hA
      go_wp2
      go_ret2
      exact ⟨by rw [e.out]; rfl, hb⟩
    have hn1d : decide (r.size ≤ n) = false := by simpa using hn1
    obtain ⟨ly, hly⟩ : ∃ ly, f.y = some ly := by
      cases h : f.y
      · rw [hsz] at hn1
        have : f.size = -1 := by unfold Fr.size; rw [h]
        omega
      · exact ⟨_, rfl⟩
    obtain ⟨hfs, hfc⟩ := size_some hly
    have hrn : r.size = (ly.length : Int) := by rw [hsz, hfs]
    rw [hrn] at q1 hn1 hn1d
    obtain ⟨k, rfl⟩ := Int.eq_ofNat_of_zero_le (show 0 ≤ n by omega)
    have hk : k < ly.length := by omega
    have e : Kp (getY s k = (if ly[k].on then ly[k].w else 0, ly[k].on)) := ⟨by
      unfold getY
      rw [hl]
      simp only [if_neg hn0, Int.toNat_natCast, hfc, List.getElem?_eq_getElem hk]⟩
    have hne : f.cl ≠ [] := by rw [hfc]; intro h; rw [h] at hk; simp at hk
    obtain ⟨a1, a2, a3, a4⟩ := HS1.out.cut.2 m r f hr hf
    obtain ⟨gs, hgs, hrA⟩ := a4 hne
    rw [hfc] at a3
    rw [hrA, a3] at q2
    obtain ⟨As, cs, hsv, hsc, hs0, hs1⟩ := HS1.out.sshape
    rw [hsv] at hgs
    cases As with
    | none => cases hgs
    | some x =>
    obtain ⟨g2, rfl⟩ := hs1 x rfl
    have eg2 : g2 = gs := by simpa [Value.ownBlock] using hgs
    subst eg2
    subst hsv
    have hoff : (allY (s.fs.take m)).length = (allY s.fs.dropLast).length := by rw [List.dropLast_eq_take, hm]; rfl
    obtain ⟨off, hof⟩ : ∃ off, off = (allY s.fs.dropLast).length := ⟨_, rfl⟩
    rw [hoff, ← hof] at q2
    have hay := allY_last hl
    rw [hfc] at hay
    have hi : off + k < (allY s.fs).length := by rw [hay, List.length_append, ← hof]; omega
    have hce : (allY s.fs)[off + k] = ly[k] := by
      have h1 : (allY s.fs)[off + k]? = ly[k]? := by rw [hay, List.getElem?_append_right (by omega), ← hof]; congr 1; omega
      rw [List.getElem?_eq_getElem hi, List.getElem?_eq_getElem hk] at h1
      exact Option.some.inj h1
    have z0 : w1.cell? ⟨g2, (off + k) * 2, none⟩ = some (.int .u64 ly[k].w) := by rw [← hce]; exact HS1.out.sl.elem (off + k) 0 hi (by decide)
    have z1 : w1.cell? ⟨g2, (off + k) * 2 + 1, none⟩ = some (.bool ly[k].on) := by rw [← hce]; exact HS1.out.sl.elem (off + k) 1 hi (by decide)
    have ea : (off + k) * 2 = off * 2 + k * 2 := Nat.add_mul _ _ _
    rw [ea] at z0 z1
    have k0 : (0 : Int) ≤ (k : Int) := by omega
    have k1 : (k : Int) < (ly.length : Int) := by omega
    obtain ⟨cl, hcl⟩ : ∃ cl, cl = ly[k] := ⟨_, rfl⟩
    rw [← hcl] at z0 z1 e
    clear hm hr hf hl hsz hrt hg hA hly hfs hfc hrn hk hne a1 a2 a3 a4 hgs hrA hs0 hs1 hsc hoff hof hi ea hay hce hcl
    obtain ⟨cw, on⟩ := cl
    cases on
    · go_wp2_with (go_at_call 44; refine (read_any _ ⟨cw, false⟩).mono ?_; rintro e2 w2 ⟨rfl, hb2⟩)
      go_ret2
      exact ⟨by rw [e.out]; rfl, bstep hb hb.size hb2⟩
    · go_wp2_with (go_at_call 44; refine (read_any _ ⟨cw, true⟩).mono ?_; rintro e2 w2 ⟨rfl, hb2⟩)
      go_ret2
      exact ⟨by rw [e.out]; rfl, bstep hb hb.size hb2⟩

end Go.Proofs.Ythdfmopbihpcoaa
