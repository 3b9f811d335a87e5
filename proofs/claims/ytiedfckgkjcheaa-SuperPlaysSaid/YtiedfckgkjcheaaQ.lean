/- What super.Start answers; for at most 1000 children. -/
import Derived.Test.YtiedfckgkjcheaaP
namespace Go.Proofs.Ytiedfckgkjcheaa
open Go.RowKit

def setR (b : Bool) (c : Ch) : Ch := { c with runs := b }
/-- The blocks that a supervisor's list takes. -/
def FL (p : Nat) (lv : Value) : Nat → Prop := fun k => k = p ∨ lv.ownBlock = some k

theorem IsSup.setRuns {w : World} {p g n c : Nat} {ev : Value} {s : SupM} (h : IsSup w p (.slice (some ⟨g, 0, none⟩) n c) ev s) (hn : n = s.l.length) (i : Nat) (hi : i < s.l.length) (x : Ch) (hx : x = s.l[i]) (b : Bool) :
    IsSup (w.setCell ⟨g, i * 4 + 2, none⟩ (.bool b)) p (.slice (some ⟨g, 0, none⟩) n c) ev { s with l := s.l.set i (setR b x) } := by
  subst hx
  have hpg : p ≠ g := fun e => h.lne (by rw [e]; rfl)
  exact ⟨blk_set_ne h.blk hpg _, h.l.set hn i 2 (setR b s.l[i]) (.bool b) hi (by decide) rfl, h.e.set_ne (fun e => h.le e rfl) _⟩
theorem IsSup.setGone {w : World} {p g n c : Nat} {ev : Value} {s : SupM} (h : IsSup w p (.slice (some ⟨g, 0, none⟩) n c) ev s) (hn : n = s.l.length) (i : Nat) (hi : i < s.l.length) (x : Ch) (hx : x = s.l[i]) (b : Bool) :
    IsSup (w.setCell ⟨g, i * 4 + 3, none⟩ (.bool b)) p (.slice (some ⟨g, 0, none⟩) n c) ev { s with l := s.l.set i { x with gone := b } } := by
  subst hx
  have hpg : p ≠ g := fun e => h.lne (by rw [e]; rfl)
  exact ⟨blk_set_ne h.blk hpg _, h.l.set hn i 3 { s.l[i] with gone := b } (.bool b) hi (by decide) rfl, h.e.set_ne (fun e => h.le e rfl) _⟩
theorem IsSup.setF {w : World} {p : Nat} {lv ev u : Value} {s s' : SupM} (h : IsSup w p lv ev s) (k : Nat) (hl : s'.l = s.l) (he : s'.ends = s.ends) (hc : (SupC s lv ev).setIfInBounds k u = SupC s' lv ev) :
    IsSup (w.setCell ⟨p, k, none⟩ u) p lv ev s' := by
  refine ⟨?_, by rw [hl]; exact h.l.set_ne h.lne _, by rw [he]; exact h.e.set_ne h.ene _⟩
  rw [blk_set h.blk, hc]

theorem IsSup.keep {w w' : World} {p : Nat} {lv ev v : Value} {s : SupM} {l : List AM} (h : IsSup w p lv ev s) (ho : Own w 43 eAM v l) (hc : Chg (fun g => v.ownBlock = some g) w w') : IsSup w' p lv ev s := by
  refine h.frame hc (ho.ne h.blk (by decide)) (fun g hg => ?_) (fun g hg => ?_)
  · obtain ⟨cur, hcur⟩ := h.l.blk' hg
    exact ho.ne hcur (by decide)
  · obtain ⟨cur, hcur⟩ := h.e.blk' hg
    exact ho.ne hcur (by decide)
theorem Chg.fresh {F : Nat → Prop} {w a b : World} {v : Value} (h : Chg F w a) (hf : Fresh w v) (hc : Chg (fun g => v.ownBlock = some g) a b) : Chg F w b :=
  h.trans hc fun n hn hg => by have := hf n hg; omega

set_option maxHeartbeats 400000 in
theorem start_nil (w : World) : Calls Try.prog 10 #[.pointer none] w fun e w' => e = .returned (.tuple #[.slice none 0 0, .int .i64 2]) ∧ w = w' := by
  go_enter Try.func10, Try.ntmps10
  go_wp2
  go_ret2
  exact ⟨rfl, rfl⟩
set_option maxHeartbeats 400000 in
theorem start_no (w : World) (p : Nat) (lv ev : Value) (s : SupM) (hs : IsSup w p lv ev s) (h : s.sd = true ∨ s.ov = true) :
    Calls Try.prog 10 #[.pointer (some ⟨p, 0, none⟩)] w fun e w' => e = .returned (.tuple #[.slice none 0 0, .int .i64 250]) ∧ w = w' := by
  have h4 : w.cell? ⟨p, 4, none⟩ = some (.bool s.sd) := hs.c 4
  have h5 : w.cell? ⟨p, 5, none⟩ = some (.bool s.ov) := hs.c 5
  cases hd : s.sd
  · have ho : s.ov = true := by rcases h with h | h; rw [hd] at h; cases h; exact h
    rw [hd] at h4
    rw [ho] at h5
    go_enter Try.func10, Try.ntmps10
    go_wp2
    go_ret2
    exact ⟨rfl, rfl⟩
  · rw [hd] at h4
    go_enter Try.func10, Try.ntmps10
    go_wp2
    go_ret2
    exact ⟨rfl, rfl⟩

def StartPost (w : World) (p : Nat) (lv ev : Value) (s : SupM) (e : Ending) (w' : World) : Prop :=
  ∃ v, e = .returned (.tuple #[v, .int .i64 0]) ∧ Own w' 43 eAM v (s.l.map fun c => ⟨true, c.name⟩) ∧ Fresh w v ∧ IsSup w' p lv ev { s with sd := true, l := s.l.map (setR true) } ∧ Chg (FL p lv) w w'

set_option maxHeartbeats 2000000 in
theorem start_yes (w : World) (p : Nat) (lv ev : Value) (s : SupM) (hs : IsSup w p lv ev s) (hn : s.l.length ≤ 1000) (hd : s.sd = false) (ho : s.ov = false) :
    Calls Try.prog 10 #[.pointer (some ⟨p, 0, none⟩)] w (StartPost w p lv ev s) := by
  have hs1 : IsSup (w.setCell ⟨p, 4, none⟩ (.bool true)) p lv ev { s with sd := true } := hs.setF 4 rfl rfl rfl
  have hc1 : Chg (FL p lv) w (w.setCell ⟨p, 4, none⟩ (.bool true)) := (Chg.refl _ w).set (p := ⟨p, 4, none⟩) (.inl (.inl rfl)) _
  obtain ⟨A, c, hlv, _, _, hA0, hA1⟩ := hs.l.shape
  subst hlv
  have hA := Kp.mk hA1
  clear hA1
  have h4 : w.cell? ⟨p, 4, none⟩ = some (.bool s.sd) := hs.c 4
  have h5 : w.cell? ⟨p, 5, none⟩ = some (.bool s.ov) := hs.c 5
  have f4 : w.frozen? ⟨p, 4, none⟩ = false := hs.f 4
  have h3 : w.cell? ⟨p, 3, none⟩ = some (.slice A s.l.length c) := hs.c 3
  rw [hd] at h4
  rw [ho] at h5
  have hplt := lt_of_block hs.blk
  go_enter Try.func10, Try.ntmps10
  go_wp2
  go_loopw [4, 28] (fun v i wr => ∃ (k : Nat) (l' : List Ch), k ≤ s.l.length ∧ i = .int .i64 k ∧ PW s.l l' (fun i c => if i < k then setR true c else c) ∧ Own wr 43 eAM v ((s.l.take k).map fun c => ⟨true, c.name⟩) ∧ Fresh w v ∧
    IsSup wr p (.slice A s.l.length c) ev { s with sd := true, l := l' } ∧ Chg (FL p (.slice A s.l.length c)) w wr) (fun _ i _ => s.l.length - (intOf i).toNat)
  case atStart => exact ⟨0, s.l, Nat.zero_le _, rfl, ⟨rfl, fun _ _ h => by simpa using h⟩, Own.nil _ _ _, Fresh.nil _ _ _, hs1, hc1⟩
  case round =>
    clear h4 h5 f4 h3 hs1 hc1
    obtain ⟨k, l', hk, rfl, hpw, hown, hfr, hsr, hcr⟩ := hrel
    have hll := Kp.mk hpw.len
    by_cases hlt : k < s.l.length
    · cases A with
      | none => have := (hA0 rfl).1; rw [this] at hlt; simp at hlt
      | some a =>
        obtain ⟨g, rfl⟩ := hA.out a rfl
        have hlt' : k < l'.length := by rw [hll.out]; exact hlt
        have ht : s.l.take (k + 1) = s.l.take k ++ [s.l[k]] := List.take_succ_eq_append_getElem hlt
        have hx : l'[k] = s.l[k] := by
          have := hpw.at_ k _ (List.getElem?_eq_getElem hlt)
          rw [List.getElem?_eq_getElem hlt'] at this
          simpa using this
        have hW := hsr.setRuns hll.out.symm k hlt' s.l[k] hx.symm true
        have hpwN := hpw.set k hlt (setR true s.l[k])
        have p3 : wr.cell? ⟨p, 3, none⟩ = some (.slice (some ⟨g, 0, none⟩) s.l.length c) := hsr.c 3
        have q0 : wr.cell? ⟨g, k * 4, none⟩ = some (.string s.l[k].name) := by rw [← hx]; exact hsr.l.elem k 0 hlt' (by decide)
        have q2 : wr.cell? ⟨g, k * 4 + 2, none⟩ = some (.bool s.l[k].runs) := by rw [← hx]; exact hsr.l.elem k 2 hlt' (by decide)
        have f2 : wr.frozen? ⟨g, k * 4 + 2, none⟩ = false := hsr.l.frozen _
        have hpg : p ≠ g := fun e => hsr.lne (by rw [e]; rfl)
        have hownW : Own (wr.setCell ⟨g, k * 4 + 2, none⟩ (.bool true)) 43 eAM u4 ((s.l.take k).map fun c => ⟨true, c.name⟩) := by
          obtain ⟨cur, hcur⟩ := hsr.l.blk
          exact hown.set_ne (hown.ne hcur (by decide)) _
        obtain ⟨x, hxx⟩ : ∃ x, x = s.l[k] := ⟨_, rfl⟩
        rw [← hxx] at ht hW hpwN q0 q2
        have HX := Kp.mk hxx
        have HT := Kp.mk ht
        have HX2 := Kp.mk hx
        clear hxx ht hx
        have hlen : ((s.l.take k).map fun c => (⟨true, c.name⟩ : AM)).length ≤ k := by simp; omega
        go_wp2_with fail
        refine (acts_any _ true (some ⟨wr.heap.size, 0, none⟩) 1 [x.name] (src_new _ eStr 9 _ x.name rfl (by simp)) (by simp)).mono ?_
        rintro e w3 ⟨v3, rfl, ho3, hf3, hb3⟩
        have hs3 := (hW.below ((Below.refl _ _).alloc (Nat.le_refl _) (.cells #[.string x.name] 9))).below hb3
        have hown3 := (hownW.alloc (.cells #[.string x.name] 9)).below hb3
        have hc3 : Chg (FL p (.slice (some ⟨g, 0, none⟩) s.l.length c)) w w3 := (((hcr.set (p := ⟨g, k * 4 + 2, none⟩) (.inl (.inr rfl)) (.bool true)).alloc _)).then (Chg.of_below hb3 _)
        obtain ⟨A3, c3, hv3, _⟩ := ho3.shape
        subst hv3
        go_wp2_with (at_builtin; refine app_ev T28 rfl _ _ rfl hown3 rfl (ho3.src rfl) rfl rfl (by simp only [List.length_map, List.length_cons, List.length_nil] at hlen ⊢; omega) (by simp only [List.length_map, List.length_cons, List.length_nil] at hlen ⊢; omega) ?_; intro A' n' c' w4 a0 a1 a2 a3)
        go_roundw
        case rel =>
          refine ⟨k + 1, _, by omega, by go_num, hpwN.ext ?_, by rw [HT.out, List.map_append]; exact a1, hfr.app hc3.size a3, hs3.keep hown3 a2, hc3.fresh hfr a2⟩
          intro i c hc
          by_cases e : i = k
          · subst e
            rw [HX.out]
            rw [List.getElem?_eq_getElem hlt] at hc
            cases hc
            simp
          · rw [if_neg e]
            by_cases e2 : i < k
            · rw [if_pos e2, if_pos (by omega)]
            · rw [if_neg e2, if_neg (by omega)]
        case measure => simp [intOf]; omega
    · have hle : s.l.length ≤ k := by omega
      clear hlt
      go_wp2
      go_ret2
      have ht : s.l.take k = s.l := List.take_of_length_le hle
      rw [ht] at hown
      have he : l' = s.l.map (setR true) := by
        have h1 := (hpw.ext (g := fun _ c => setR true c) (fun i c hc => by
          have := (List.getElem?_eq_some_iff.1 hc).1
          rw [if_pos (by omega)])).eq
        rw [h1]; apply List.ext_getElem?; intro i; simp [List.getElem?_mapIdx]
      rw [he] at hsr
      exact ⟨_, rfl, hown, hfr, hsr, hcr⟩

end Go.Proofs.Ytiedfckgkjcheaa
