/- The reference's supervisor in memory; what Start, Running and Count of parleyref29 answer; bounds stand in each statement. -/
import Derived.Test.YtiedfckgkjcheaaV
namespace Go.Proofs.Ytiedfckgkjcheaa
open Go.RowKit

def RefC (s : SupM) (lv rv fv ev : Value) : Array Value := #[.int .i64 s.st, .int .i64 s.it, .int .i64 s.pe, lv, rv, fv, ev, .int .i64 s.la, .bool s.sd, .bool s.ov]
structure IsRef (w : World) (q : Nat) (lv rv fv ev : Value) (s : SupM) (fg : List Bool) : Prop where
  blk : w.heap[q]? = some (.cells (RefC s lv rv fv ev) 55 (0, 0))
  l : Own w 49 eCS lv (s.l.map kid)
  r : Own w 4 eBool rv (s.l.map (·.runs))
  f : Own w 4 eBool fv fg
  e : Own w 2 eI64 ev s.ends
  fl : fg.length = s.l.length
  rf : ∀ g, rv.ownBlock = some g → fv.ownBlock ≠ some g
section
variable {w w' : World} {q : Nat} {lv rv fv ev : Value} {s : SupM} {fg : List Bool}
theorem IsRef.frame (h : IsRef w q lv rv fv ev s fg) {F : Nat → Prop} (hc : Chg F w w') (hq : ¬ F q) (h1 : ∀ g, lv.ownBlock = some g → ¬ F g) (h2 : ∀ g, rv.ownBlock = some g → ¬ F g) (h3 : ∀ g, fv.ownBlock = some g → ¬ F g) (h4 : ∀ g, ev.ownBlock = some g → ¬ F g) : IsRef w' q lv rv fv ev s fg :=
  ⟨hc.at h.blk hq, h.l.frame hc h1, h.r.frame hc h2, h.f.frame hc h3, h.e.frame hc h4, h.fl, h.rf⟩
theorem IsRef.below (h : IsRef w q lv rv fv ev s fg) (hc : Below w.heap.size w w') : IsRef w' q lv rv fv ev s fg :=
  h.frame (Chg.of_below hc NoF) (fun h => h) (fun _ _ h => h) (fun _ _ h => h) (fun _ _ h => h) (fun _ _ h => h)
theorem IsRef.c (h : IsRef w q lv rv fv ev s fg) (k : Nat) : w.cell? ⟨q, k, none⟩ = (RefC s lv rv fv ev)[k]? := blk_c h.blk k
theorem IsRef.fz (h : IsRef w q lv rv fv ev s fg) (k : Nat) : w.frozen? ⟨q, k, none⟩ = false := blk_f h.blk k
/-- Kept where only a row of another type of elements is written. -/
theorem IsRef.keep {α : Type} {T : TypeId} {E : El α} {v : Value} {l : List α} (h : IsRef w q lv rv fv ev s fg) (ho : Own w T E v l) (hT : T ≠ 55 ∧ T ≠ 49 ∧ T ≠ 4 ∧ T ≠ 2) (hc : Chg (fun g => v.ownBlock = some g) w w') : IsRef w' q lv rv fv ev s fg := by
  refine h.frame hc (ho.ne h.blk hT.1) (fun g hg => ?_) (fun g hg => ?_) (fun g hg => ?_) (fun g hg => ?_)
  · obtain ⟨cur, hcur⟩ := h.l.blk' hg; exact ho.ne hcur hT.2.1
  · obtain ⟨cur, hcur⟩ := h.r.blk' hg; exact ho.ne hcur hT.2.2.1
  · obtain ⟨cur, hcur⟩ := h.f.blk' hg; exact ho.ne hcur hT.2.2.1
  · obtain ⟨cur, hcur⟩ := h.e.blk' hg; exact ho.ne hcur hT.2.2.2
theorem kid_set (l : List Ch) (i : Nat) (x y : Ch) (hx : l[i]? = some x) (h : kid y = kid x) : (l.set i y).map kid = l.map kid := by
  apply List.ext_getElem?
  intro j
  rw [List.getElem?_map, List.getElem?_map, List.getElem?_set]
  by_cases e : i = j
  · subst e
    rw [if_pos rfl, if_pos (List.getElem?_eq_some_iff.1 hx).1, hx]
    simp [h]
  · rw [if_neg e]
theorem runs_set (l : List Ch) (i : Nat) (y : Ch) : (l.set i y).map (·.runs) = (l.map (·.runs)).set i y.runs := by rw [List.map_set]
theorem IsRef.setRuns {g n c : Nat} (h : IsRef w q lv (.slice (some ⟨g, 0, none⟩) n c) fv ev s fg) (hn : n = s.l.length) (i : Nat) (x : Ch) (hx : s.l[i]? = some x) (b : Bool) :
    IsRef (w.setCell ⟨g, i, none⟩ (.bool b)) q lv (.slice (some ⟨g, 0, none⟩) n c) fv ev { s with l := s.l.set i (setR b x) } fg := by
  have hi := (List.getElem?_eq_some_iff.1 hx).1
  obtain ⟨cg, hcg⟩ := h.r.blk
  have nq : q ≠ g := fun e => by have := h.blk; rw [e, hcg] at this; cases this
  refine ⟨blk_set_ne h.blk nq _, ?_, ?_, h.f.set_ne (h.rf g rfl) _, h.e.set_ne (h.e.ne hcg (by decide)) _, by simpa using h.fl, h.rf⟩
  · have e1 : (s.l.set i (setR b x)).map kid = s.l.map kid := kid_set s.l i x _ hx rfl
    show Own _ 49 eCS lv ((s.l.set i (setR b x)).map kid)
    rw [e1]
    exact h.l.set_ne (h.l.ne hcg (by decide)) _
  · show Own _ 4 eBool _ ((s.l.set i (setR b x)).map (·.runs))
    rw [runs_set]
    have := h.r.set (by simpa using hn) i 0 b (.bool b) (by simpa using hi) (by decide) rfl
    simpa [eBool, setR] using this
theorem IsRef.setFg {g n c : Nat} (h : IsRef w q lv rv (.slice (some ⟨g, 0, none⟩) n c) ev s fg) (hn : n = s.l.length) (i : Nat) (hi : i < s.l.length) (b : Bool) :
    IsRef (w.setCell ⟨g, i, none⟩ (.bool b)) q lv rv (.slice (some ⟨g, 0, none⟩) n c) ev s (fg.set i b) := by
  obtain ⟨cg, hcg⟩ := h.f.blk
  have nq : q ≠ g := fun e => by have := h.blk; rw [e, hcg] at this; cases this
  refine ⟨blk_set_ne h.blk nq _, h.l.set_ne (h.l.ne hcg (by decide)) _, h.r.set_ne (fun e => h.rf g e rfl) _, ?_, h.e.set_ne (h.e.ne hcg (by decide)) _, by simpa using h.fl, h.rf⟩
  have := h.f.set (by rw [h.fl]; exact hn) i 0 b (.bool b) (by rw [h.fl]; exact hi) (by decide) rfl
  simpa [eBool] using this
theorem IsRef.setF {u : Value} {s' : SupM} (h : IsRef w q lv rv fv ev s fg) (k : Nat) (hl : s'.l = s.l) (he : s'.ends = s.ends) (hc : (RefC s lv rv fv ev).setIfInBounds k u = RefC s' lv rv fv ev) :
    IsRef (w.setCell ⟨q, k, none⟩ u) q lv rv fv ev s' fg := by
  refine ⟨?_, by rw [hl]; exact h.l.set_ne (h.l.ne h.blk (by decide)) _, by rw [hl]; exact h.r.set_ne (h.r.ne h.blk (by decide)) _, h.f.set_ne (h.f.ne h.blk (by decide)) _, by rw [he]; exact h.e.set_ne (h.e.ne h.blk (by decide)) _, by rw [hl]; exact h.fl, h.rf⟩
  rw [blk_set h.blk, hc]
theorem IsRef.congr {s' : SupM} (h : IsRef w q lv rv fv ev s fg) (h1 : s'.st = s.st ∧ s'.it = s.it ∧ s'.pe = s.pe ∧ s'.la = s.la ∧ s'.sd = s.sd ∧ s'.ov = s.ov ∧ s'.ends = s.ends) (hk : s'.l.map kid = s.l.map kid) (hr : s'.l.map (·.runs) = s.l.map (·.runs)) : IsRef w q lv rv fv ev s' fg := by
  obtain ⟨a1, a2, a3, a4, a5, a6, a7⟩ := h1
  refine ⟨?_, by rw [hk]; exact h.l, by rw [hr]; exact h.r, h.f, by rw [a7]; exact h.e, ?_, h.rf⟩
  · unfold RefC; rw [a1, a2, a3, a4, a5, a6]; exact h.blk
  · have := congrArg List.length hk
    simp only [List.length_map] at this
    rw [this]; exact h.fl
theorem IsRef.drew (h : IsRef w q lv rv fv ev s fg) : IsRef w.drew q lv rv fv ev s fg := ⟨h.blk, h.l.drew, h.r.drew, h.f.drew, h.e.drew, h.fl, h.rf⟩
theorem IsRef.kidc {g n c : Nat} (h : IsRef w q (.slice (some ⟨g, 0, none⟩) n c) rv fv ev s fg) (i : Nat) (x : Ch) (hx : s.l[i]? = some x) :
    w.cell? ⟨g, i * 2, none⟩ = some (.string x.name) ∧ w.cell? ⟨g, i * 2 + 1, none⟩ = some (.int .i64 x.rs) := by
  have hi := (List.getElem?_eq_some_iff.1 hx).1
  have he : s.l[i] = x := (List.getElem?_eq_some_iff.1 hx).2
  have h0 := h.l.elem i 0 (by simpa using hi) (by decide)
  have h1 := h.l.elem i 1 (by simpa using hi) (by decide)
  rw [List.getElem_map, he] at h0 h1
  exact ⟨by simpa [eCS, kid] using h0, by simpa [eCS, kid] using h1⟩
theorem IsRef.runc {g n c : Nat} (h : IsRef w q lv (.slice (some ⟨g, 0, none⟩) n c) fv ev s fg) (i : Nat) (x : Ch) (hx : s.l[i]? = some x) :
    w.cell? ⟨g, i, none⟩ = some (.bool x.runs) := by
  have hi := (List.getElem?_eq_some_iff.1 hx).1
  have he : s.l[i] = x := (List.getElem?_eq_some_iff.1 hx).2
  have h0 := h.r.elem i 0 (by simpa using hi) (by decide)
  rw [List.getElem_map, he] at h0
  simpa [eBool] using h0
theorem IsRef.fgc {g n c : Nat} (h : IsRef w q lv rv (.slice (some ⟨g, 0, none⟩) n c) ev s fg) (i : Nat) (hi : i < s.l.length) :
    ∃ b, w.cell? ⟨g, i, none⟩ = some (.bool b) := by
  have hi' : i < fg.length := by rw [h.fl]; exact hi
  have h0 := h.f.elem i 0 hi' (by decide)
  exact ⟨fg[i], by simpa [eBool] using h0⟩
end

/-- The shape of the reference's lists. -/
theorem IsRef.shapes {w : World} {q : Nat} {lv rv fv ev : Value} {s : SupM} {fg : List Bool} (h : IsRef w q lv rv fv ev s fg) :
    ∃ A1 c1 A2 c2 A3 c3, lv = .slice A1 s.l.length c1 ∧ rv = .slice A2 s.l.length c2 ∧ fv = .slice A3 s.l.length c3 ∧
      (0 < s.l.length → ∃ g1 g2 g3, A1 = some ⟨g1, 0, none⟩ ∧ A2 = some ⟨g2, 0, none⟩ ∧ A3 = some ⟨g3, 0, none⟩) := by
  obtain ⟨A1, c1, e1, _, _, n1, m1⟩ := h.l.shape
  obtain ⟨A2, c2, e2, _, _, n2, m2⟩ := h.r.shape
  obtain ⟨A3, c3, e3, _, _, n3, m3⟩ := h.f.shape
  rw [List.length_map] at e1 e2
  rw [h.fl] at e3
  refine ⟨A1, c1, A2, c2, A3, c3, e1, e2, e3, fun hl => ?_⟩
  have key : ∀ {α : Type} (A : Option Addr) (c : Nat) (l : List α), (A = none → l = [] ∧ c = 0) → (∀ a, A = some a → ∃ g, a = (⟨g, 0, none⟩ : Addr)) → 0 < l.length → ∃ g, A = some ⟨g, 0, none⟩ := by
    intro α A c l hn hm hl
    cases A with
    | none => have := (hn rfl).1; rw [this] at hl; simp at hl
    | some a => obtain ⟨g, rfl⟩ := hm a rfl; exact ⟨g, rfl⟩
  obtain ⟨g1, r1⟩ := key A1 c1 _ n1 m1 (by simpa using hl)
  obtain ⟨g2, r2⟩ := key A2 c2 _ n2 m2 (by simpa using hl)
  obtain ⟨g3, r3⟩ := key A3 c3 _ n3 m3 (by rw [h.fl]; exact hl)
  exact ⟨g1, g2, g3, r1, r2, r3⟩

/-! ### Start -/
set_option maxHeartbeats 400000 in
theorem rstart_no (w : World) (q : Nat) (lv rv fv ev : Value) (s : SupM) (fg : List Bool) (hs : IsRef w q lv rv fv ev s fg) (h : s.sd = true ∨ s.ov = true) :
    Calls Try.prog 34 #[.pointer (some ⟨q, 0, none⟩)] w fun e w' => e = .returned (.tuple #[.slice none 0 0, .int .i64 250]) ∧ w = w' := by
  have h4 : w.cell? ⟨q, 8, none⟩ = some (.bool s.sd) := hs.c 8
  have h5 : w.cell? ⟨q, 9, none⟩ = some (.bool s.ov) := hs.c 9
  cases hd : s.sd
  · have ho : s.ov = true := by rcases h with h | h; rw [hd] at h; cases h; exact h
    rw [hd] at h4
    rw [ho] at h5
    go_enter Try.func34, Try.ntmps34
    go_wp2
    go_ret2
    exact ⟨rfl, rfl⟩
  · rw [hd] at h4
    go_enter Try.func34, Try.ntmps34
    go_wp2
    go_ret2
    exact ⟨rfl, rfl⟩

def FR (q : Nat) (rv : Value) : Nat → Prop := fun k => k = q ∨ rv.ownBlock = some k
def RStartPost (w : World) (q : Nat) (lv rv fv ev : Value) (s : SupM) (fg : List Bool) (e : Ending) (w' : World) : Prop :=
  ∃ v, e = .returned (.tuple #[v, .int .i64 0]) ∧ Own w' 43 eAM v (s.l.map fun c => ⟨true, c.name⟩) ∧ Fresh w v ∧ IsRef w' q lv rv fv ev { s with sd := true, l := s.l.map (setR true) } fg ∧ Chg (FR q rv) w w'

set_option maxHeartbeats 2000000 in
theorem rstart_yes (w : World) (q : Nat) (lv rv fv ev : Value) (s : SupM) (fg : List Bool) (hs : IsRef w q lv rv fv ev s fg) (hn : s.l.length ≤ 1000) (hd : s.sd = false) (ho : s.ov = false) :
    Calls Try.prog 34 #[.pointer (some ⟨q, 0, none⟩)] w (RStartPost w q lv rv fv ev s fg) := by
  have hs1 : IsRef (w.setCell ⟨q, 8, none⟩ (.bool true)) q lv rv fv ev { s with sd := true } fg := hs.setF 8 rfl rfl rfl
  have hc1 : Chg (FR q rv) w (w.setCell ⟨q, 8, none⟩ (.bool true)) := (Chg.refl _ w).set (p := ⟨q, 8, none⟩) (.inl (.inl rfl)) _
  obtain ⟨A1, c1, A2, c2, A3, c3, e1, e2, e3, hA⟩ := hs.shapes
  subst e1
  subst e2
  subst e3
  have HA := Kp.mk hA
  clear hA
  have h4 : w.cell? ⟨q, 8, none⟩ = some (.bool s.sd) := hs.c 8
  have h5 : w.cell? ⟨q, 9, none⟩ = some (.bool s.ov) := hs.c 9
  have f4 : w.frozen? ⟨q, 8, none⟩ = false := hs.fz 8
  have h3 : w.cell? ⟨q, 3, none⟩ = some (.slice A1 s.l.length c1) := hs.c 3
  rw [hd] at h4
  rw [ho] at h5
  have hplt := lt_of_block hs.blk
  go_enter Try.func34, Try.ntmps34
  go_wp2
  go_loopw [4, 5] (fun v i wr => ∃ (k : Nat) (l' : List Ch), k ≤ s.l.length ∧ i = .int .i64 k ∧ PW s.l l' (fun i c => if i < k then setR true c else c) ∧ Own wr 43 eAM v ((s.l.take k).map fun c => ⟨true, c.name⟩) ∧ Fresh w v ∧
    IsRef wr q (.slice A1 s.l.length c1) (.slice A2 s.l.length c2) (.slice A3 s.l.length c3) ev { s with sd := true, l := l' } fg ∧ Chg (FR q (.slice A2 s.l.length c2)) w wr) (fun _ i _ => s.l.length - (intOf i).toNat)
  case atStart => exact ⟨0, s.l, Nat.zero_le _, rfl, ⟨rfl, fun _ _ h => by simpa using h⟩, Own.nil _ _ _, Fresh.nil _ _ _, hs1, hc1⟩
  case round =>
    clear h4 h5 f4 h3 hs1 hc1
    obtain ⟨k, l', hk, rfl, hpw, hown, hfr, hsr, hcr⟩ := hrel
    have hll := Kp.mk hpw.len
    have p3 : wr.cell? ⟨q, 3, none⟩ = some (.slice A1 s.l.length c1) := hsr.c 3
    by_cases hlt : k < s.l.length
    · obtain ⟨g1, g2, g3, r1, r2, r3⟩ := HA.out (by omega)
      subst r1
      subst r2
      subst r3
      have hlt' : k < l'.length := by rw [hll.out]; exact hlt
      have ht : s.l.take (k + 1) = s.l.take k ++ [s.l[k]] := List.take_succ_eq_append_getElem hlt
      have hx : l'[k]? = some s.l[k] := by
        have := hpw.at_ k _ (List.getElem?_eq_getElem hlt)
        rw [if_neg (by omega)] at this
        exact this
      have hW := hsr.setRuns hll.out.symm k s.l[k] hx true
      have hpwN := hpw.set k hlt (setR true s.l[k])
      have p4 : wr.cell? ⟨q, 4, none⟩ = some (.slice (some ⟨g2, 0, none⟩) s.l.length c2) := hsr.c 4
      have q0 := (hsr.kidc k _ hx).1
      have q1 := (hW.kidc k _ (by show (l'.set k (setR true s.l[k]))[k]? = some (setR true s.l[k]); rw [List.getElem?_set, if_pos rfl, if_pos hlt'])).1
      have q2 := hsr.runc k _ hx
      have f2 : wr.frozen? ⟨g2, k, none⟩ = false := hsr.r.frozen _
      have hpg : q ≠ g2 := fun e => by have := hsr.r.ne hsr.blk (by decide); exact this (by rw [e]; rfl)
      have hg12 : g1 ≠ g2 := fun e => by obtain ⟨cg, hcg⟩ := hsr.r.blk; exact hsr.l.ne hcg (by decide) (by rw [e]; rfl)
      have hownW : Own (wr.setCell ⟨g2, k, none⟩ (.bool true)) 43 eAM u4 ((s.l.take k).map fun c => ⟨true, c.name⟩) := by
        obtain ⟨cur, hcur⟩ := hsr.r.blk
        exact hown.set_ne (hown.ne hcur (by decide)) _
      obtain ⟨x, hxx⟩ : ∃ x, x = s.l[k] := ⟨_, rfl⟩
      rw [← hxx] at ht hW hpwN q0 q2 q1
      have HX := Kp.mk hxx
      have HT := Kp.mk ht
      clear hxx ht hx
      have hlen : ((s.l.take k).map fun c => (⟨true, c.name⟩ : AM)).length ≤ k := by simp; omega
      go_wp2_with (at_builtin; refine app1_ev T28 ⟨true, x.name⟩ rfl _ _ rfl hownW rfl rfl rfl (by simp) rfl (by omega) (by omega) ?_; intro A' n' c' w4 a0 a1 a2 a3)
      go_roundw
      case rel =>
        refine ⟨k + 1, _, by omega, by go_num, hpwN.ext ?_, by rw [HT.out, List.map_append]; exact a1, hfr.app (a := wr.setCell ⟨g2, k, none⟩ (.bool true)) (by simpa [World.setCell] using hcr.size) a3, hW.keep hownW (by decide) a2, ?_⟩
        · intro i c hc
          by_cases e : i = k
          · subst e
            rw [HX.out]
            rw [List.getElem?_eq_getElem hlt] at hc
            cases hc
            simp
          · rw [if_neg e]
            by_cases e2 : i < k
            · rw [if_pos e2, if_pos (by omega)]
            · rw [if_neg e2, if_neg (by omega)]
        · exact (hcr.set (p := ⟨g2, k, none⟩) (.inl (.inr rfl)) (.bool true)).fresh hfr a2
      case measure => simp [intOf]; omega
    · have hle : s.l.length ≤ k := by omega
      clear hlt
      go_wp2
      go_ret2
      have ht : s.l.take k = s.l := List.take_of_length_le hle
      rw [ht] at hown
      have he : l' = s.l.map (setR true) := by
        have h1 := (hpw.ext (g := fun _ c => setR true c) (fun i c hc => by
          have := (List.getElem?_eq_some_iff.1 hc).1
          rw [if_pos (by omega)])).eq
        rw [h1]; apply List.ext_getElem?; intro i; simp [List.getElem?_mapIdx]
      rw [he] at hsr
      exact ⟨_, rfl, hown, hfr, hsr, hcr⟩

/-! ### Running -/
set_option maxHeartbeats 1000000 in
theorem rrunning_any (w : World) (q : Nat) (lv rv fv ev : Value) (s : SupM) (fg : List Bool) (hs : IsRef w q lv rv fv ev s fg) (hn : s.l.length ≤ 1000) :
    Calls Try.prog 21 #[.pointer (some ⟨q, 0, none⟩)] w (RunPost w s) := by
  obtain ⟨A1, c1, A2, c2, A3, c3, e1, e2, e3, hA⟩ := hs.shapes
  subst e1
  subst e2
  subst e3
  have HA := Kp.mk hA
  clear hA
  go_enter Try.func21, Try.ntmps21
  go_wp2
  go_loopw [3, 4] (fun v i wr => ∃ k : Nat, k ≤ s.l.length ∧ i = .int .i64 k ∧ Own wr 9 eStr v (runningL (s.l.take k)) ∧ Fresh w v ∧ Below w.heap.size w wr) (fun _ i _ => s.l.length - (intOf i).toNat)
  case atStart => exact ⟨0, Nat.zero_le _, rfl, Own.nil _ _ _, Fresh.nil _ _ _, Below.refl _ _⟩
  case round =>
    obtain ⟨k, hk, rfl, hown, hfr, hb⟩ := hrel
    have hsr := hs.below hb
    have p3 : wr.cell? ⟨q, 3, none⟩ = some (.slice A1 s.l.length c1) := hsr.c 3
    have p4 : wr.cell? ⟨q, 4, none⟩ = some (.slice A2 s.l.length c2) := hsr.c 4
    by_cases hlt : k < s.l.length
    · obtain ⟨g1, g2, g3, r1, r2, r3⟩ := HA.out (by omega)
      subst r1
      subst r2
      subst r3
      have ht : s.l.take (k + 1) = s.l.take k ++ [s.l[k]] := List.take_succ_eq_append_getElem hlt
      have hl : (runningL (s.l.take k)).length ≤ k := Nat.le_trans (runningL_len _) (List.length_take_le _ _)
      have q0 := (hsr.kidc k _ (List.getElem?_eq_getElem hlt)).1
      have q2 := hsr.runc k _ (List.getElem?_eq_getElem hlt)
      obtain ⟨x, hx⟩ : ∃ x, x = s.l[k] := ⟨_, rfl⟩
      rw [← hx] at q0 q2 ht
      clear hx
      have HS : Kp (runningL (s.l.take (k + 1)) = runningL (s.l.take k) ++ if x.runs then [x.name] else []) := ⟨by rw [ht, runningL_snoc]⟩
      clear ht
      cases hr : x.runs
      · rw [hr] at q2
        go_wp2
        go_roundw
        case rel => exact ⟨k + 1, by omega, by go_num, by rw [HS.out, hr]; simpa using hown, hfr, hb⟩
        case measure => simp [intOf]; omega
      · rw [hr] at q2
        go_wp2_with (at_builtin; refine app1_ev T36 x.name rfl _ _ rfl hown rfl rfl rfl (by simp) rfl (by omega) (by omega) ?_; intro A' n' c' w1 h0 h1 h2 h3)
        go_roundw
        case rel => exact ⟨k + 1, by omega, by go_num, by rw [HS.out, hr]; exact h1, hfr.app hb.size h3, chg_below hb h2 hfr hb.size⟩
        case measure => simp [intOf]; omega
    · have hle : s.l.length ≤ k := by omega
      clear hlt
      go_wp2
      go_ret
      exact ⟨_, rfl, by rwa [List.take_of_length_le hle] at hown, hfr, hb⟩

/-! ### Count -/
theorem below_drewN {B : Nat} {w a : World} (h : Below B w a) (n : Nat) : Below B w (a.drewN n) := ⟨h.os, h.tape, h.output, h.size, h.block⟩
set_option maxHeartbeats 1000000 in
theorem rcount_any (w : World) (q : Nat) (lv rv fv ev : Value) (s : SupM) (fg : List Bool) (tick : Int) (hs : IsRef w q lv rv fv ev s fg) (h1 : tick ≤ 9223372036854775807)
    (hl : ∀ t ∈ s.ends, 0 ≤ t) (hn : s.ends.length ≤ 9000000000000000000) :
    Calls Try.prog 22 #[.pointer (some ⟨q, 0, none⟩), .int .i64 tick] w fun e w' => e = .returned (.int .i64 (countL s.ends tick s.pe)) ∧ Below w.heap.size w w' := by
  obtain ⟨A, c, hlv, _, _, hA0, hA1⟩ := hs.e.shape
  subst hlv
  have hA := Kp.mk hA1
  clear hA1
  have HL := Kp.mk hl
  clear hl
  go_enter Try.func22, Try.ntmps22
  go_wp2
  go_loopw [5, 6] (fun n i wr => ∃ k : Nat, k ≤ s.ends.length ∧ i = .int .i64 k ∧ n = .int .i64 (countL (s.ends.take k) tick s.pe) ∧ Below w.heap.size w wr) (fun _ i _ => s.ends.length - (intOf i).toNat)
  case atStart => exact ⟨0, Nat.zero_le _, rfl, rfl, Below.refl _ _⟩
  case round =>
    obtain ⟨k, hk, rfl, rfl, hb⟩ := hrel
    have hsr : IsRef wr q lv rv fv (.slice A s.ends.length c) s fg := hs.below hb
    have hp : wr.cell? ⟨q, 2, none⟩ = some (.int .i64 s.pe) := hsr.c 2
    have h3 : wr.cell? ⟨q, 6, none⟩ = some (.slice A s.ends.length c) := hsr.c 6
    by_cases hlt : k < s.ends.length
    · cases A with
      | none => have := (hA0 rfl).1; rw [this] at hlt; simp at hlt
      | some a =>
        obtain ⟨g, rfl⟩ := hA.out a rfl
        have hc : wr.cell? ⟨g, k, none⟩ = some (.int .i64 s.ends[k]) := by have := hsr.e.elem k 0 hlt (by decide); simpa [eI64] using this
        have hge := HL.out _ (List.getElem_mem hlt)
        have hcl := countL_le (s.ends.take k) tick s.pe
        have hln : (s.ends.take k).length ≤ k := List.length_take_le _ _
        have ht : s.ends.take (k+1) = s.ends.take k ++ [s.ends[k]] := List.take_succ_eq_append_getElem hlt
        obtain ⟨x, hx⟩ : ∃ x, x = s.ends[k] := ⟨_, rfl⟩
        rw [← hx] at hc hge ht
        clear hx
        have HS : Kp (countL (s.ends.take (k+1)) tick s.pe = countL (s.ends.take k) tick s.pe + if (decide (0 ≤ tick) && withinB x tick s.pe) then 1 else 0) := ⟨by rw [ht]; exact countL_snoc _ _ _ _⟩
        clear ht
        have i0 : (0 : Int) ≤ (k : Int) := by omega
        have i1 : (k : Int) < (s.ends.length : Int) := by omega
        by_cases hle : x ≤ tick
        · have h0 : decide (0 ≤ tick) = true := by simp; omega
          by_cases h2 : tick - x < s.pe
          · have e1 : Kp ((decide (0 ≤ tick) && withinB x tick s.pe) = true) := ⟨by simp [withinB, hle, h2]; omega⟩
            have hd1 : decide (x ≤ tick) = true := by simpa using hle
            go_wp2_with fail
            go_quiet (fail)
            go_wp2
            go_roundw
            case rel => exact ⟨k + 1, by omega, by go_num, by rw [HS.out, e1.out, if_pos rfl]; go_num, below_drewN hb _⟩
            case measure => simp [intOf]; omega
          · have e1 : Kp ((decide (0 ≤ tick) && withinB x tick s.pe) = false) := ⟨by simp [withinB, hle, h2]⟩
            have hd1 : decide (x ≤ tick) = true := by simpa using hle
            have hd2 : decide (tick - x < s.pe) = false := by simpa using h2
            go_wp2_with fail
            go_quiet (fail)
            go_wp2
            go_roundw
            case rel => exact ⟨k + 1, by omega, by go_num, by rw [HS.out, e1.out]; simp, below_drewN hb _⟩
            case measure => simp [intOf]; omega
        · have e1 : Kp ((decide (0 ≤ tick) && withinB x tick s.pe) = false) := ⟨by simp [withinB, hle]⟩
          have hd1 : decide (x ≤ tick) = false := by simpa using hle
          go_wp2_with fail
          go_quiet (fail)
          go_wp2
          go_roundw
          case rel => exact ⟨k + 1, by omega, by go_num, by rw [HS.out, e1.out]; simp, below_drewN hb _⟩
          case measure => simp [intOf]; omega
    · have hle : s.ends.length ≤ k := by omega
      clear hlt
      go_wp2
      go_ret
      have ht : s.ends.take k = s.ends := List.take_of_length_le hle
      rw [ht]
      exact ⟨rfl, hb⟩

end Go.Proofs.Ytiedfckgkjcheaa
