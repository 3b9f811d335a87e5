/- What Return of package frame answers; for at most 1000 frames. -/
import Derived.Test.YthdfmopbihpcoaaO
import Derived.StillTailTactics
namespace Go.Proofs.Ythdfmopbihpcoaa
open Go.RowKit

section
variable {α : Type} {w : World} {T : TypeId} {E : El α} {l : List α}
/-- A row cut short is a row. -/
theorem Own.take {g n c : Nat} (h : Own w T E (.slice (some ⟨g, 0, none⟩) n c) l) (m : Nat) (hm : m ≤ l.length) : Own w T E (.slice (some ⟨g, 0, none⟩) m c) (l.take m) := by
  rcases h.row.2 with ⟨h1, _⟩ | ⟨g', cap, cur, h1, _, hg, hc, hmx, hs, ht⟩
  · cases h1
  · cases h1
    have e : (l.take m).length = m := by rw [List.length_take]; omega
    refine ⟨⟨E.flat_length _, .inr ⟨g, c, cur, by rw [e], Nat.zero_le _, hg, by rw [e]; omega, hmx, hs, ?_⟩⟩⟩
    have e2 : E.flat (l.take m) = (E.flat l).take (m * E.k) := by
      have h2 : E.flat l = E.flat (l.take m) ++ E.flat (l.drop m) := by rw [← E.flat_append, List.take_append_drop]
      have h3 : (E.flat (l.take m)).length = m * E.k := by rw [E.flat_length, e]
      rw [h2, ← h3, List.take_left]
    rw [e, e2, ← ht, List.take_take]
    congr 1
    have := Nat.mul_le_mul_right E.k hm
    omega
end
theorem IsSt.putF {w : World} {p : Nat} {fv fv' sv : Value} {xs : List Cl} {fs' : List Fr} {rs' : List Rec} (hb : w.heap[p]? = some (.cells (StC xs fv sv) 60 (0, 0))) (hx : xs.length = 16) (hf : Own w 54 eRec fv' rs') (hs : Own w 57 eCl sv (allY fs')) (hc : Cuts sv fs' rs') :
    IsSt (w.setCell ⟨p, 32, none⟩ fv') p fv' sv ⟨xs, fs'⟩ rs' :=
  ⟨by rw [blk_set hb, StC_setF _ _ _ _ hx], hx, hf.set_ne (hf.ne hb (by decide)) _, hs.set_ne (hs.ne hb (by decide)) _, hc⟩
theorem IsSt.putS {w : World} {p : Nat} {fv sv sv' : Value} {xs : List Cl} {fs' : List Fr} {rs' : List Rec} (hb : w.heap[p]? = some (.cells (StC xs fv sv) 60 (0, 0))) (hx : xs.length = 16) (hf : Own w 54 eRec fv rs') (hs : Own w 57 eCl sv' (allY fs')) (hc : Cuts sv' fs' rs') :
    IsSt (w.setCell ⟨p, 33, none⟩ sv') p fv sv' ⟨xs, fs'⟩ rs' :=
  ⟨by rw [blk_set hb, StC_setS _ _ _ _ hx], hx, hf.set_ne (hf.ne hb (by decide)) _, hs.set_ne (hs.ne hb (by decide)) _, hc⟩
theorem IsSt.drew {w : World} {p : Nat} {fv sv : Value} {s : StM} {rs : List Rec} (h : IsSt w p fv sv s rs) : IsSt w.drew p fv sv s rs := ⟨h.blk, h.x16, h.f.drew, h.sl.drew, h.cut⟩
theorem allY_last {fs : List Fr} {f : Fr} (h : fs.getLast? = some f) : allY fs = allY fs.dropLast ++ f.cl := by
  have e : fs = fs.dropLast ++ [f] := by
    rw [List.getLast?_eq_getElem?] at h
    obtain ⟨hlt, hf⟩ := List.getElem?_eq_some_iff.1 h
    have h2 := List.take_succ_eq_append_getElem hlt
    rw [show fs.length - 1 + 1 = fs.length by omega, List.take_length, hf, ← List.dropLast_eq_take] at h2
    exact h2
  conv => lhs; rw [e]
  unfold allY
  rw [List.flatMap_append]
  simp

def retV (s : StM) : Int × Int := match s.fs.getLast? with | none => (0, 192) | some f => match f.y with | some _ => (0, 192) | none => (f.rt, 0)
def RetPost (w : World) (p : Nat) (fv sv : Value) (s : StM) (rs : List Rec) (e : Ending) (w' : World) : Prop :=
  e = .returned (.tuple #[.int .i64 (retV s).1, .int .i64 (retV s).2]) ∧
    (((retV s).2 ≠ 0 ∧ Below w.heap.size w w') ∨ ((retV s).2 = 0 ∧ ∃ fv', IsSt w' p fv' sv { s with fs := s.fs.dropLast } rs.dropLast ∧ fv'.ownBlock = fv.ownBlock ∧ Chg (fun g => g = p) w w'))
theorem size_neg {f : Fr} : f.size < 0 ↔ f.y = none := by
  unfold Fr.size
  cases f.y with
  | none => simp
  | some l => simp
theorem Cuts.dropLast {sv : Value} {fs : List Fr} {rs : List Rec} (h : Cuts sv fs rs) : Cuts sv fs.dropLast rs.dropLast := by
  refine ⟨by simp [h.1], fun k r f hr hf => ?_⟩
  have hk := (List.getElem?_eq_some_iff.1 hf).1
  rw [List.length_dropLast] at hk
  rw [List.getElem?_dropLast] at hr hf
  have hl := h.1
  rw [if_pos (by omega)] at hr hf
  have := h.2 k r f hr hf
  rw [show fs.dropLast.take k = fs.take k from by rw [List.dropLast_eq_take, List.take_take]; congr 1; omega]
  exact this
set_option maxHeartbeats 2000000 in
theorem ret_any (w : World) (p : Nat) (fv sv : Value) (s : StM) (rs : List Rec) (hs : IsSt w p fv sv s rs) (hn : s.fs.length ≤ 1000) :
    Calls Try.prog 18 #[.pointer (some ⟨p, 0, none⟩)] w (RetPost w p fv sv s rs) := by
  have HS := Kp.mk hs
  clear hs
  go_enter Try.func18, Try.ntmps18
  go_wp2_with fail
  refine (last_any w p fv sv s rs HS.out hn).mono ?_
  rintro e w1 ⟨P, hP, rfl, hb⟩
  rcases hP with ⟨h0, rfl⟩ | ⟨m, g, hm, hg, rfl⟩
  · have e : Kp (retV s = (0, 192)) := ⟨by unfold retV; rw [List.eq_nil_of_length_eq_zero h0]; rfl⟩
    clear h0
    go_wp2
    go_ret2
    exact ⟨by rw [e.out]; rfl, .inl ⟨by rw [e.out]; decide, hb⟩⟩
  · obtain ⟨r, f, hr, hf, hl, hsz, hrt⟩ := HS.out.top hm
    obtain ⟨A, c, hv, hA⟩ := HS.out.fshape
    obtain ⟨g', rfl⟩ := hA (by omega)
    rw [hm] at hv
    subst hv
    have eg : g' = g := by simpa [Value.ownBlock] using hg
    subst eg
    have HS1 := Kp.mk (HS.out.below hb)
    obtain ⟨q0, q1, _⟩ := HS1.out.recc m r hr
    by_cases hy : f.y = none
    · have e : Kp (retV s = (f.rt, 0)) := ⟨by unfold retV; rw [hl]; simp only [hy]⟩
      have hneg : r.size < 0 := by rw [hsz]; exact size_neg.2 hy
      have hd : decide (0 ≤ r.size) = false := by simp; omega
      have qf := HS1.out.cf
      have qfz : w1.frozen? ⟨p, 32, none⟩ = false := HS1.out.fz _
      have hm2 : m ≤ 1000 := by omega
      have e1 : ((m : Int) + 1 - 1) = (m : Int) := by omega
      have m0 : (0 : Int) ≤ (m : Int) := by omega
      have m1 : (m : Int) ≤ (m : Int) + 1 := by omega
      have hcap : m + 1 ≤ c := by
        obtain ⟨A, c2, h1, h2, _⟩ := HS1.out.f.shape
        have h3 := HS.out.cut.1
        rw [h3, hm] at h1 h2
        cases h1
        exact h2
      have hcap2 : (m : Int) ≤ (c : Int) := by omega
      have HRT : Kp (r.rt = f.rt) := ⟨hrt⟩
      have HM := Kp.mk hm
      have HY := Kp.mk hy
      have HL := Kp.mk hl
      clear hm hr hf hl hsz hrt hg hA hy hneg
      go_wp2_with fail
      go_region
      all_goals go_wp2
      go_ret2
      have hok : Kp ((retV s).2 = 0) := ⟨by rw [e.out]⟩
      have hlen : m ≤ rs.length := by have := HS.out.cut.1; have := HM.out; omega
      have h5 := HS1.out.f.take m hlen
      have ed : rs.take m = rs.dropLast := by rw [List.dropLast_eq_take, HS.out.cut.1, HM.out]; rfl
      rw [ed] at h5
      have ey : allY s.fs.dropLast = allY s.fs := by
        rw [allY_last HL.out]
        have : f.cl = [] := by unfold Fr.cl; rw [HY.out]; rfl
        rw [this, List.append_nil]
      have h6 := IsSt.putF (fs' := s.fs.dropLast) HS1.out.blk HS1.out.x16 h5 (by rw [ey]; exact HS1.out.sl) HS1.out.cut.dropLast
      exact ⟨by rw [e.out, ← HRT.out]; rfl, .inr ⟨hok.out, _, h6.drew, rfl, ((Chg.of_below hb (fun g => g = p)).set (p := ⟨p, 32, none⟩) (.inl rfl) _).drew⟩⟩
    · obtain ⟨ly, hly⟩ : ∃ ly, f.y = some ly := by cases h : f.y; exact absurd h hy; exact ⟨_, rfl⟩
      have e : Kp (retV s = (0, 192)) := ⟨by unfold retV; rw [hl]; simp only [hly]⟩
      have hge : (0 : Int) ≤ r.size := by
        rw [hsz]
        by_cases h : 0 ≤ f.size
        · exact h
        · exact absurd (size_neg.1 (by omega)) hy
      clear hm hr hf hl hsz hrt hg hA hy hly
      go_wp2
      go_ret2
      exact ⟨by rw [e.out]; rfl, .inl ⟨by rw [e.out]; decide, hb⟩⟩

end Go.Proofs.Ythdfmopbihpcoaa
