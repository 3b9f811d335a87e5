/- What Open and Keep of package frame answer; for at most 1000 frames and 10^6 slots. -/
import Derived.Test.YthdfmopbihpcoaaR
import Derived.Test.YthdfmopbihpcoaaZeros
namespace Go.Proofs.Ythdfmopbihpcoaa
open Go.RowKit

def openV (s : StM) (n : Int) : Int := if n < 0 ∨ 16 < n then 1 else match s.fs.getLast? with | none => 192 | some f => match f.y with | some _ => 192 | none => 0
def openM (s : StM) (n : Nat) : StM := match s.fs.getLast? with | none => s | some f => { s with fs := s.fs.dropLast ++ [⟨f.rt, some (List.replicate n zeroCl)⟩] }
def OpenPost (w : World) (p : Nat) (fv sv : Value) (s : StM) (n : Int) (e : Ending) (w' : World) : Prop :=
  e = .returned (.int .i64 (openV s n)) ∧ ((openV s n ≠ 0 ∧ Below w.heap.size w w') ∨ (openV s n = 0 ∧ ∃ sv' rs', IsSt w' p fv sv' (openM s n.toNat) rs' ∧ Same w sv sv' ∧ Chg (FS p fv sv) w w'))
theorem open_pre {w1 w2 : World} {p g' m c n : Nat} {sv sv' : Value} {s : StM} {rs : List Rec} {r : Rec} {f : Fr} (h : IsSt w1 p (.slice (some ⟨g', 0, none⟩) (m + 1) c) sv s rs) (hm : s.fs.length = m + 1) (hr : rs[m]? = some r) (hf : s.fs[m]? = some f) (hlast : s.fs.getLast? = some f) (hy : f.y = none)
    (ho : Own w2 57 eCl sv' (allY s.fs ++ List.replicate n zeroCl)) (hc : Chg (fun g => sv.ownBlock = some g) w1 w2) :
    Pre ((w2.setCell ⟨p, 33, none⟩ sv').setCell ⟨g', m * 3 + 1, none⟩ (.int .i64 n)) p (.slice (some ⟨g', 0, none⟩) (m + 1) c) sv' { s with fs := s.fs.dropLast ++ [⟨f.rt, some (List.replicate n zeroCl)⟩] } (rs.set m { r with size := n }) := by
  have hl : rs.length = m + 1 := by rw [h.cut.1]; exact hm
  have hmr : m < rs.length := by omega
  have hrr : rs[m] = r := by rw [List.getElem?_eq_getElem hmr] at hr; exact Option.some.inj hr
  have npg : p ≠ g' := fun e => h.f.ne h.blk (by decide) (by rw [e]; rfl)
  have b0 := hc.at h.blk (h.sl.ne h.blk (by decide))
  have f0 := h.f.frame hc (fun g hg hF => by obtain ⟨cur, hcur⟩ := h.f.blk' hg; exact h.sl.ne hcur (by decide) hF)
  have b1 := blk_set b0 33 sv'
  rw [StC_setS _ _ _ _ h.x16] at b1
  have b2 := blk_set_ne b1 npg (k := m * 3 + 1) (.int .i64 n)
  have f1 := f0.set_ne (q := p) (k := 33) (f0.ne b0 (by decide)) sv'
  have f2 := f1.set hl.symm m 1 { r with size := n } (.int .i64 n) hmr (by decide) (by rw [hrr]; rfl)
  have o1 := ho.set_ne (q := p) (k := 33) (ho.ne b0 (by decide)) sv'
  have o2 := o1.set_ne (q := g') (k := m * 3 + 1) (o1.ne f1.blk.choose_spec (by decide)) (.int .i64 n)
  have hay := allY_last hlast
  have hcl : f.cl = [] := by unfold Fr.cl; rw [hy]; rfl
  rw [hcl, List.append_nil] at hay
  refine ⟨b2, h.x16, f2, ?_, by simp; omega, fun k r' f' hr' hf' => ?_⟩
  · show Own _ 57 eCl sv' (allY (s.fs.dropLast ++ [⟨f.rt, some (List.replicate n zeroCl)⟩]))
    rw [allY_append, ← hay]
    have : allY [(⟨f.rt, some (List.replicate n zeroCl)⟩ : Fr)] = List.replicate n zeroCl := by simp [allY, Fr.cl]
    rw [this]
    exact o2
  · rw [List.getElem?_set] at hr'
    by_cases e : m = k
    · subst e
      rw [if_pos rfl, if_pos hmr] at hr'
      cases hr'
      rw [List.getElem?_append_right (by rw [List.length_dropLast]; omega), List.length_dropLast, show m - (s.fs.length - 1) = 0 by omega] at hf'
      cases hf'
      exact ⟨(h.cut.2 m r f hr hf).1, by simp [Fr.size], fun h => by cases h⟩
    · rw [if_neg e] at hr'
      have hk : k < m := by
        have := (List.getElem?_eq_some_iff.1 hr').1
        omega
      rw [List.getElem?_append_left (by rw [List.length_dropLast]; omega), List.getElem?_dropLast, if_pos (by omega)] at hf'
      obtain ⟨a1, a2, a3, _⟩ := h.cut.2 k r' f' hr' hf'
      exact ⟨a1, a2, fun h => by rw [a3]; unfold Fr.cl; rw [h]; rfl⟩

theorem rec_size {w : World} {g n c : Nat} {rs : List Rec} (h : Own w 54 eRec (.slice (some ⟨g, 0, none⟩) n c) rs) (i : Nat) (r : Rec) (hr : rs[i]? = some r) : w.cell? ⟨g, i * 3 + 1, none⟩ = some (.int .i64 r.size) := by
  obtain ⟨hi, rfl⟩ := List.getElem?_eq_some_iff.1 hr
  exact h.elem i 1 hi (by decide)
set_option maxHeartbeats 2000000 in
theorem open_any (w : World) (p : Nat) (fv sv : Value) (s : StM) (rs : List Rec) (n : Int) (hs : IsSt w p fv sv s rs) (hn : s.fs.length ≤ 1000) (hny : (allY s.fs).length ≤ 900000) :
    Calls Try.prog 16 #[.pointer (some ⟨p, 0, none⟩), .int .i64 n] w (OpenPost w p fv sv s n) := by
  have HS := Kp.mk hs
  clear hs
  go_enter Try.func16, Try.ntmps16
  go_wp2_with fail
  refine (last_any w p fv sv s rs HS.out hn).mono ?_
  rintro e w1 ⟨P, hP, rfl, hb⟩
  by_cases hn0 : n < 0
  · have e : Kp (openV s n = 1) := ⟨by unfold openV; rw [if_pos (.inl hn0)]⟩
    clear hP
    go_wp2
    go_ret
    exact ⟨by rw [e.out]; rfl, .inl ⟨by rw [e.out]; decide, hb⟩⟩
  have hn0d : decide (n < 0) = false := by simpa using hn0
  by_cases hn1 : 16 < n
  · have e : Kp (openV s n = 1) := ⟨by unfold openV; rw [if_pos (.inr hn1)]⟩
    clear hP
    go_wp2
    go_ret
    exact ⟨by rw [e.out]; rfl, .inl ⟨by rw [e.out]; decide, hb⟩⟩
  have hn1d : decide (16 < n) = false := by simpa using hn1
  rcases hP with ⟨h0, rfl⟩ | ⟨m, g, hm, hg, rfl⟩
  · have e : Kp (openV s n = 192) := ⟨by unfold openV; rw [if_neg (by omega), List.eq_nil_of_length_eq_zero h0]; rfl⟩
    clear h0
    go_wp2
    go_ret
    exact ⟨by rw [e.out]; rfl, .inl ⟨by rw [e.out]; decide, hb⟩⟩
  · obtain ⟨r, f, hr, hf, hl, hsz, hrt⟩ := HS.out.top hm
    obtain ⟨A, c, hv, hA⟩ := HS.out.fshape
    obtain ⟨g', rfl⟩ := hA (by omega)
    rw [hm] at hv
    subst hv
    have eg : g' = g := by simpa [Value.ownBlock] using hg
    subst eg
    have HS1 := Kp.mk (HS.out.below hb)
    obtain ⟨q0, q1, q2⟩ := HS1.out.recc m r hr
    by_cases hy : f.y = none
    · have e : Kp (openV s n = 0) := ⟨by unfold openV; rw [if_neg (by omega), hl]; simp only [hy]⟩
      have hneg : r.size < 0 := by rw [hsz]; exact size_neg.2 hy
      have hd : decide (0 ≤ r.size) = false := by simp; omega
      have eM : Kp (openM s n.toNat = { s with fs := s.fs.dropLast ++ [⟨f.rt, some (List.replicate n.toNat zeroCl)⟩] }) := ⟨by unfold openM; rw [hl]⟩
      obtain ⟨k, rfl⟩ := Int.eq_ofNat_of_zero_le (show 0 ≤ n by omega)
      rw [Int.toNat_natCast] at eM
      have hk16 : k ≤ 16 := by omega
      obtain ⟨As, cs, hsv, hsc, hs0, hs1⟩ := HS1.out.sshape
      have qf := HS1.out.cs
      rw [hsv] at qf
      have hown : Own w1 57 eCl (.slice As (allY s.fs).length cs) (allY s.fs) := by rw [← hsv]; exact HS1.out.sl
      have HSV := Kp.mk hsv
      have HM := Kp.mk hm
      have HR := Kp.mk hr
      have HFF := Kp.mk hf
      have HL := Kp.mk hl
      have HY := Kp.mk hy
      have hw0 : w.heap.size ≤ w1.heap.size := hb.size
      have hpne : (Value.slice As (allY s.fs).length cs).ownBlock ≠ some p := by rw [← hsv]; exact HS1.out.sl.ne HS1.out.blk (by decide)
      have hgne : (Value.slice As (allY s.fs).length cs).ownBlock ≠ some g' := by rw [← hsv]; exact HS1.out.sl.ne HS1.out.f.blk.choose_spec (by decide)
      have HPN := Kp.mk hpne
      have HGN := Kp.mk hgne
      have npg : p ≠ g' := fun e => HS1.out.f.ne HS1.out.blk (by decide) (by rw [e]; rfl)
      clear hm hr hf hl hsz hrt hg hA hy hneg hsv hs0 hs1 hsc hpne hgne hn0 hn1
      go_wp2_with (at_builtin; refine appz_ev (z0 := zeroCl) (z := .agg #[.int .u64 0, .bool false]) Try.underlying52 Try.underlying3 (k := 2) (by_ := 16) (by kernel_rfl) rfl rfl rfl _ _ rfl hown rfl k rfl (by omega) (by decide) ?_; intro A' n' c' w2 a0 a1 a2 a3; have B2 := a2.at HS1.out.blk HPN.out; have p33 : w2.cell? ⟨p, 33, none⟩ = some (.slice As (allY s.fs).length cs) := (by rw [blk_c B2, (StC_f _ _ _ HS1.out.x16).2, HSV.out]); have pf33 := blk_f B2 33; have pl := lt_of_block B2; have F2 := HS1.out.f.frame a2 (fun g hg hF => HGN.out (by have e9 : g' = g := (by simpa [Value.ownBlock] using hg); rw [e9]; exact hF)); have t2 : w2.frozen? ⟨g', m * 3 + 1, none⟩ = false := F2.frozen _; have t1 := rec_size F2 m r HR.out)
      have HPRE := Kp.mk (open_pre HS1.out HM.out HR.out HFF.out HL.out HY.out a1 (by rw [HSV.out]; exact a2))
      have HC0 : Kp (Chg (FS p (.slice (some ⟨g', 0, none⟩) (m + 1) c) sv) w ((w2.setCell ⟨p, 33, none⟩ (.slice A' n' c')).setCell ⟨g', m * 3 + 1, none⟩ (.int .i64 (k : Nat)))) :=
        ⟨((((Chg.of_below hb _).then (a2.mono fun _ _ h => .inr (.inr (by rw [HSV.out]; exact h)))).set (p := ⟨p, 33, none⟩) (.inl (.inl rfl)) _).set (p := ⟨g', m * 3 + 1, none⟩) (.inl (.inr (.inl rfl))) _)⟩
      have HSAME : Kp (Same w sv (.slice A' n' c')) := ⟨by
        rw [HSV.out]
        rcases a3 with h | ⟨g, h, h2⟩
        · exact .inl h
        · exact .inr ⟨g, h, by omega⟩⟩
      have hlen9 : Kp ((allY (s.fs.dropLast ++ [(⟨f.rt, some (List.replicate k zeroCl)⟩ : Fr)])).length = (allY s.fs).length + k) := ⟨by
        have hay := allY_last HL.out
        have hcl : f.cl = [] := by unfold Fr.cl; rw [HY.out]; rfl
        rw [hcl, List.append_nil] at hay
        rw [allY_append, ← hay]
        simp [allY, Fr.cl]⟩
      refine (cut_any _ p _ _ _ _ HPRE.out (by simp; have := HM.out; omega) (by show (allY (s.fs.dropLast ++ [(⟨f.rt, some (List.replicate k zeroCl)⟩ : Fr)])).length ≤ _; rw [hlen9.out]; omega)).mono ?_
      rintro e5 w5 ⟨⟨v5, rfl⟩, rs5, hfin, hc5⟩
      clear p33 pf33 t1 t2 F2 B2 pl a1 a2 a3 hown qf q0 q1 q2 HPRE
      rw [← eM.out] at hfin
      have HFIN := Kp.mk hfin
      clear hfin
      go_wp2
      go_ret
      exact ⟨by rw [e.out]; rfl, .inr ⟨e.out, _, _, by rw [Int.toNat_natCast]; exact HFIN.out, HSAME.out, HC0.out.then (hc5.mono fun _ _ h => .inr (.inl h))⟩⟩
    · obtain ⟨ly, hly⟩ : ∃ ly, f.y = some ly := by cases h : f.y; exact absurd h hy; exact ⟨_, rfl⟩
      have e : Kp (openV s n = 192) := ⟨by unfold openV; rw [if_neg (by omega), hl]; simp only [hly]⟩
      have hge : (0 : Int) ≤ r.size := by
        rw [hsz, (size_some hly).1]; omega
      clear hm hr hf hl hsz hrt hg hA hy hly
      go_wp2
      go_ret
      exact ⟨by rw [e.out]; rfl, .inl ⟨by rw [e.out]; decide, hb⟩⟩

end Go.Proofs.Ythdfmopbihpcoaa
