/- What super.New answers; for a list that lies in memory. -/
import Derived.Test.YtiedfckgkjcheaaN
namespace Go.Proofs.Ytiedfckgkjcheaa
open Go.RowKit

def dupB : List CS → List CS → Bool
  | _, [] => false
  | seen, c :: r => seen.any (fun d => beqS d.name c.name) || dupB (seen ++ [c]) r
def longB (c : CS) : Bool := decide (c.name.size < 1) || decide (255 < c.name.size)
def badB (st it pe : Int) : Bool := decide (st < 1) || decide (4 ≤ st) || decide (it < 0) || decide (1000 < it) || decide (pe < 1) || decide (1152921504606846976 < pe)
def newErr (st it pe : Int) (cs : List CS) : Int :=
  if badB st it pe then 1 else if cs.any (fun c => !rightB c) then 1 else if 32 < cs.length then 4 else if cs.any longB then 4 else if dupB [] cs then 6 else 0
def mkCh (c : CS) : Ch := ⟨c.name, c.rs, false, false⟩
def newM (st it pe : Int) (cs : List CS) : SupM := ⟨st, it, pe, cs.map mkCh, false, false, 0, []⟩

def NewPost (w : World) (st it pe : Int) (cs : List CS) (e : Ending) (w' : World) : Prop :=
  Below w.heap.size w w' ∧ ((newErr st it pe cs ≠ 0 ∧ e = .returned (.tuple #[.pointer none, .int .i64 (newErr st it pe cs)])) ∨
    (newErr st it pe cs = 0 ∧ ∃ p lv, w.heap.size ≤ p ∧ Fresh w lv ∧ e = .returned (.tuple #[.pointer (some ⟨p, 0, none⟩), .int .i64 0]) ∧ IsSup w' p lv (.slice none 0 0) (newM st it pe cs)))

set_option maxHeartbeats 1000000 in
theorem new_bad (w : World) (st it pe : Int) (sv : Value) (h : badB st it pe = true) :
    Calls Try.prog 8 #[.int .i64 st, .int .i64 it, .int .i64 pe, sv] w fun e w' => e = .returned (.tuple #[.pointer none, .int .i64 1]) ∧ w = w' := by
  by_cases h1 : st < 1
  · go_enter Try.func8, Try.ntmps8
    go_wp2
    go_ret2
    exact ⟨rfl, rfl⟩
  have d1 : decide (st < 1) = false := by simp; omega
  by_cases h2 : 4 ≤ st
  · go_enter Try.func8, Try.ntmps8
    go_wp2
    go_ret2
    exact ⟨rfl, rfl⟩
  have d2 : decide (4 ≤ st) = false := by simp; omega
  by_cases h3 : it < 0
  · go_enter Try.func8, Try.ntmps8
    go_wp2
    go_ret2
    exact ⟨rfl, rfl⟩
  have d3 : decide (it < 0) = false := by simp; omega
  by_cases h4 : 1000 < it
  · go_enter Try.func8, Try.ntmps8
    go_wp2
    go_ret2
    exact ⟨rfl, rfl⟩
  have d4 : decide (1000 < it) = false := by simp; omega
  by_cases h5 : pe < 1
  · go_enter Try.func8, Try.ntmps8
    go_wp2
    go_ret2
    exact ⟨rfl, rfl⟩
  have d5 : decide (pe < 1) = false := by simp; omega
  by_cases h6 : 1152921504606846976 < pe
  · go_enter Try.func8, Try.ntmps8
    go_wp2
    go_ret2
    exact ⟨rfl, rfl⟩
  exfalso
  simp [badB] at h
  omega

set_option maxHeartbeats 2000000 in
theorem new_any (w : World) (st it pe : Int) (cs : List CS) (A : Option Addr) (cp : Nat) (hs : Src w eCS A cp cs) (hn : cs.length * 24 ≤ 140737488355328) :
    Calls Try.prog 8 #[.int .i64 st, .int .i64 it, .int .i64 pe, .slice A cs.length cp] w (NewPost w st it pe cs) := by
  by_cases hbad : badB st it pe = true
  · refine (new_bad w st it pe _ hbad).mono ?_
    rintro e w' ⟨rfl, rfl⟩
    have e1 : newErr st it pe cs = 1 := by simp [newErr, hbad]
    exact ⟨Below.refl _ _, .inl ⟨by rw [e1]; decide, by rw [e1]⟩⟩
  have E0 : Kp (newErr st it pe cs = if cs.any (fun c => !rightB c) then 1 else if 32 < cs.length then 4 else if cs.any longB then 4 else if dupB [] cs then 6 else 0) := ⟨by simp [newErr, hbad]⟩
  have hb' : 1 ≤ st ∧ st < 4 ∧ 0 ≤ it ∧ it ≤ 1000 ∧ 1 ≤ pe ∧ pe ≤ 1152921504606846976 := by simp [badB] at hbad; omega
  clear hbad
  obtain ⟨b1, b2, b3, b4, b5, b6⟩ := hb'
  have d1 : decide (st < 1) = false := by simp; omega
  have d2 : decide (4 ≤ st) = false := by simp; omega
  have d3 : decide (it < 0) = false := by simp; omega
  have d4 : decide (1000 < it) = false := by simp; omega
  have d5 : decide (pe < 1) = false := by simp; omega
  have d6 : decide (1152921504606846976 < pe) = false := by simp; omega
  go_enter Try.func8, Try.ntmps8
  go_wp2
  go_loopw [41] (fun i wr => ∃ k : Nat, k ≤ cs.length ∧ i = .int .i64 k ∧ Kp (cs.any (fun c => !rightB c) = (cs.drop k).any (fun c => !rightB c)) ∧ Below w.heap.size w wr) (fun i _ => cs.length - (intOf i).toNat)
  case atStart => exact ⟨0, Nat.zero_le _, rfl, ⟨rfl⟩, Below.refl _ _⟩
  case round =>
    obtain ⟨k, hk, rfl, hany, hb⟩ := hrel
    by_cases hlt : k < cs.length
    · cases A with
      | none => have := (hs.none rfl).1; subst this; simp at hlt
      | some ad =>
        obtain ⟨g, o, rfl⟩ := hs.addr (by omega)
        have hc : cs.drop k = cs[k] :: cs.drop (k + 1) := List.drop_eq_getElem_cons hlt
        have H0 : wr.cell? ⟨g, o + k * 2, none⟩ = some (.string cs[k].name) := (hs.below hb).elem k 0 hlt (by decide)
        have H1 : wr.cell? ⟨g, o + k * 2 + 1, none⟩ = some (.int .i64 cs[k].rs) := (hs.below hb).elem k 1 hlt (by decide)
        obtain ⟨c, hcc⟩ : ∃ c, c = cs[k] := ⟨_, rfl⟩
        rw [← hcc] at H0 H1 hc
        clear hcc
        have HC := Kp.mk hc; clear hc
        go_wp2_with (go_at_call 25; refine (right_any _ c).mono ?_; rintro e w1 ⟨rfl, hb1⟩)
        · have hr : (!rightB c) = true := by assumption
          go_ret2
          have e1 : newErr st it pe cs = 1 := by rw [E0.out, hany.out, HC.out]; simp [hr]
          exact ⟨bstep (hb.alloc hb.size _) (by have := hb.size; simp; omega) hb1, .inl ⟨by rw [e1]; decide, by rw [e1]; rfl⟩⟩
        · have hr : (!rightB c) = false := by assumption
          go_roundw
          case rel => exact ⟨k + 1, by omega, by go_num, ⟨by rw [hany.out, HC.out, List.any_cons, hr]; rfl⟩, bstep (hb.alloc hb.size _) (by have := hb.size; simp; omega) hb1⟩
          case measure => simp [intOf]; omega
    · have hle : cs.length ≤ k := by omega
      have E1 : Kp (newErr st it pe cs = if 32 < cs.length then 4 else if cs.any longB then 4 else if dupB [] cs then 6 else 0) :=
        ⟨by rw [E0.out, hany.out, List.drop_eq_nil_of_le hle]; rfl⟩
      clear hlt E0 hany
      by_cases hlen : 32 < cs.length
      · go_wp2
        go_ret2
        have e1 : newErr st it pe cs = 4 := by rw [E1.out, if_pos hlen]
        exact ⟨hb, .inl ⟨by rw [e1]; decide, by rw [e1]; rfl⟩⟩
      have E2 : Kp (newErr st it pe cs = if cs.any longB then 4 else if dupB [] cs then 6 else 0) := ⟨by rw [E1.out, if_neg hlen]⟩
      clear E1
      have hlen' : cs.length ≤ 32 := by omega
      have hd7 : decide (k < cs.length) = false := by simp; omega
      have hd8 : decide (32 < (cs.length : Int)) = false := by simp; omega
      clear hlen
      clear hk
      go_wp2
      go_loopw [54] (fun i wr => ∃ k : Nat, k ≤ cs.length ∧ i = .int .i64 k ∧ Kp (cs.any longB = (cs.drop k).any longB) ∧ Below w.heap.size w wr) (fun i _ => cs.length - (intOf i).toNat)
      case atStart => exact ⟨0, Nat.zero_le _, rfl, ⟨rfl⟩, hb⟩
      case round =>
        clear hb
        obtain ⟨k, hk, rfl, hany, hb⟩ := hrel
        by_cases hlt : k < cs.length
        · cases A with
          | none => have := (hs.none rfl).1; subst this; simp at hlt
          | some ad =>
            obtain ⟨g, o, rfl⟩ := hs.addr (by omega)
            have hc : cs.drop k = cs[k] :: cs.drop (k + 1) := List.drop_eq_getElem_cons hlt
            have H0 : wr.cell? ⟨g, o + k * 2, none⟩ = some (.string cs[k].name) := (hs.below hb).elem k 0 hlt (by decide)
            have H1 : wr.cell? ⟨g, o + k * 2 + 1, none⟩ = some (.int .i64 cs[k].rs) := (hs.below hb).elem k 1 hlt (by decide)
            obtain ⟨c, hcc⟩ : ∃ c, c = cs[k] := ⟨_, rfl⟩
            rw [← hcc] at H0 H1 hc
            clear hcc
            have HC := Kp.mk hc; clear hc
            by_cases hz : (c.name.size : Int) < 1
            · go_wp2
              go_ret2
              have e1 : newErr st it pe cs = 4 := by
                have hl : longB c = true := by unfold longB; rw [Bool.or_eq_true, decide_eq_true_eq, decide_eq_true_eq]; omega
                rw [E2.out, hany.out, HC.out]; simp [hl]
              exact ⟨hb.alloc hb.size _, .inl ⟨by rw [e1]; decide, by rw [e1]; rfl⟩⟩
            have hd : decide ((c.name.size : Int) < 1) = false := by simp; omega
            by_cases hy : 255 < (c.name.size : Int)
            · go_wp2
              go_ret2
              have e1 : newErr st it pe cs = 4 := by
                have hl : longB c = true := by unfold longB; rw [Bool.or_eq_true, decide_eq_true_eq, decide_eq_true_eq]; omega
                rw [E2.out, hany.out, HC.out]; simp [hl]
              exact ⟨hb.alloc hb.size _, .inl ⟨by rw [e1]; decide, by rw [e1]; rfl⟩⟩
            have hd2 : decide (255 < (c.name.size : Int)) = false := by simp; omega
            have hl : Kp (longB c = false) := ⟨by unfold longB; rw [Bool.or_eq_false_iff, decide_eq_false_iff_not, decide_eq_false_iff_not]; omega⟩
            go_wp2
            go_roundw
            case rel => exact ⟨k + 1, by omega, by go_num, ⟨by rw [hany.out, HC.out, List.any_cons, hl.out]; rfl⟩, hb.alloc hb.size _⟩
            case measure => simp [intOf]; omega
        · have hle : cs.length ≤ k := by omega
          have E3 : Kp (newErr st it pe cs = if dupB [] cs then 6 else 0) :=
            ⟨by rw [E2.out, hany.out, List.drop_eq_nil_of_le hle]; rfl⟩
          have hd9 : decide (k < cs.length) = false := by simp; omega
          clear hlt E2 hany
          go_wp2
          have hsup0 : IsSup (wr.alloc (.cells #[.int .i64 st, .int .i64 it, .int .i64 pe, .slice none 0 0, .bool false, .bool false, .int .i64 0, .slice none 0 0] 62)) wr.heap.size (.slice none 0 0) (.slice none 0 0) (newM st it pe []) :=
            ⟨blk_new _ _, Own.nil _ _ _, Own.nil _ _ _⟩
          have hgt : w.heap.size ≤ wr.heap.size := hb.size
          obtain ⟨p, hp⟩ : ∃ p, p = wr.heap.size := ⟨_, rfl⟩
          rw [← hp] at hsup0 hgt ⊢
          have hb0 : Below w.heap.size w (wr.alloc (.cells #[.int .i64 st, .int .i64 it, .int .i64 pe, .slice none 0 0, .bool false, .bool false, .int .i64 0, .slice none 0 0] 62)) := hb.alloc hb.size _
          go_loopw [76] (fun i wr => ∃ (k : Nat) (lv : Value), k ≤ cs.length ∧ i = .int .i64 k ∧ IsSup wr p lv (.slice none 0 0) (newM st it pe (cs.take k)) ∧ Fresh w lv ∧ Kp (dupB [] cs = dupB (cs.take k) (cs.drop k)) ∧ Below w.heap.size w wr) (fun i _ => cs.length - (intOf i).toNat)
          case atStart => exact ⟨0, _, Nat.zero_le _, rfl, hsup0, Fresh.nil _ _ _, ⟨rfl⟩, hb0⟩
          case round =>
            clear hb hsup0 hb0 hp hk hle
            obtain ⟨k, lv, hk, rfl, hsup, hfr, hdup, hb⟩ := hrel
            by_cases hlt : k < cs.length
            · cases A with
              | none => have := (hs.none rfl).1; subst this; simp at hlt
              | some ad =>
                obtain ⟨g, o, rfl⟩ := hs.addr (by omega)
                have hc : cs.drop k = cs[k] :: cs.drop (k + 1) := List.drop_eq_getElem_cons hlt
                have ht : cs.take (k + 1) = cs.take k ++ [cs[k]] := List.take_succ_eq_append_getElem hlt
                have H0 : wr.cell? ⟨g, o + k * 2, none⟩ = some (.string cs[k].name) := (hs.below hb).elem k 0 hlt (by decide)
                have H1 : wr.cell? ⟨g, o + k * 2 + 1, none⟩ = some (.int .i64 cs[k].rs) := (hs.below hb).elem k 1 hlt (by decide)
                obtain ⟨c, hcc⟩ : ∃ c, c = cs[k] := ⟨_, rfl⟩
                rw [← hcc] at H0 H1 hc ht
                clear hcc
                have HC := Kp.mk hc; clear hc
                have HT := Kp.mk ht; clear ht
                have hlen : (newM st it pe (cs.take k)).l.length = k := by simp [newM]; omega
                obtain ⟨Al, cl, hlv, _⟩ := hsup.l.shape
                obtain ⟨b16, hb16⟩ : ∃ b, b = wr.heap.size := ⟨_, rfl⟩
                have hW := hsup.below ((Below.refl _ wr).alloc (Nat.le_refl _) (.cells #[.string c.name, .int .i64 c.rs] 49))
                have HN := blk_new wr (.cells #[.string c.name, .int .i64 c.rs] 49)
                have hbW := hb.alloc hb.size (.cells #[.string c.name, .int .i64 c.rs] 49)
                have hp3 : (wr.alloc (.cells #[.string c.name, .int .i64 c.rs] 49)).cell? ⟨p, 3, none⟩ = some (.slice Al (newM st it pe (cs.take k)).l.length cl) := by rw [blk_c hW.blk 3, ← hlv]; rfl
                have K1 := Kp.mk hlen
                have K2 := Kp.mk hlv
                have K3 := Kp.mk hb16
                have K4 := Kp.mk hp3
                clear hlen hlv hb16 hp3
                go_wp2_with fail
                refine (find_any _ p c.name (newM st it pe (cs.take k)).l Al cl (hW.l.src K2.out) (by rw [K1.out]; omega) K4.out (lt_of_block hW.blk)).mono ?_
                rintro e w1 ⟨r, hr, rfl, hb1⟩
                rcases hr with ⟨j, hj, rfl, ⟨c', hc', hq⟩, _⟩ | ⟨rfl, hno⟩
                · go_wp2
                  go_ret2
                  have hany : (cs.take k).any (fun d => beqS d.name c.name) = true := by
                    simp only [newM, List.getElem?_map] at hc'
                    cases hd : (cs.take k)[j]? with
                    | none => rw [hd] at hc'; cases hc'
                    | some d =>
                      rw [hd] at hc'
                      cases hc'
                      exact List.any_eq_true.2 ⟨d, List.mem_of_getElem? hd, hq⟩
                  have e1 : newErr st it pe cs = 6 := by rw [E3.out, hdup.out, HC.out]; simp [dupB, hany]
                  exact ⟨bstep hbW hbW.size hb1, .inl ⟨by rw [e1]; decide, by rw [e1]; rfl⟩⟩
                · have hany : (cs.take k).any (fun d => beqS d.name c.name) = false := by
                    rw [List.any_eq_false]
                    intro d hd
                    have := hno (mkCh d) (by simp only [newM]; exact List.mem_map_of_mem hd)
                    simpa [mkCh] using this
                  have hdup' : Kp (dupB [] cs = dupB (cs.take (k + 1)) (cs.drop (k + 1))) := ⟨by rw [hdup.out, HC.out, dupB, hany, HT.out]; rfl⟩
                  have hs1 := hW.below hb1
                  have hN1 := (Chg.of_below hb1 NoF).at HN (fun h => h)
                  have p3 : w1.cell? ⟨p, 3, none⟩ = some lv := blk_c hs1.blk 3
                  have pf : w1.frozen? ⟨p, 3, none⟩ = false := blk_f hs1.blk 3
                  have n0 : w1.cell? ⟨wr.heap.size, 0, none⟩ = some (.string c.name) := blk_c hN1 0
                  have n1 : w1.cell? ⟨wr.heap.size, 1, none⟩ = some (.int .i64 c.rs) := blk_c hN1 1
                  have q1 := lt_of_block hs1.blk
                  have q2 := lt_of_block hN1
                  have hlne := hs1.lne
                  go_wp2
                  have hown : Own w1.drew 65 eCh lv (newM st it pe (cs.take k)).l := hs1.l.drew
                  go_region_law ((refine app1_step T60 (mkCh c) rfl _ _ rfl hown rfl rfl rfl (by simp) rfl (by rw [K1.out]; omega) (by rw [K1.out]; omega) ?_; intro Av nv cv w2 a0 a1 a2 a3; have B2 := a2.at (w := w1.drew) hs1.blk hlne; have p3' : w2.cell? ⟨p, 3, none⟩ = some lv := (blk_c B2 3); have pf' : w2.frozen? ⟨p, 3, none⟩ = false := (blk_f B2 3)))
                  all_goals go_wp2
                  all_goals go_roundw
                  all_goals first
                    | (simp only [intOf]; omega)
                    | (refine ⟨k + 1, _, by omega, by go_num, ?_, hfr.app (a := w1) (bstep hbW hbW.size hb1).size a3, hdup', (chg_below (a := w1.drew) (bstep hbW hbW.size hb1).drew a2 hfr (bstep hbW hbW.size hb1).size).setCell hgt _⟩
                       have h9 := IsSup.setL B2 a1 (Own.nil _ _ _)
                       have e9 : newM st it pe (cs.take k ++ [c]) = { newM st it pe (cs.take k) with l := (newM st it pe (cs.take k)).l ++ [mkCh c] } := by simp [newM]
                       rw [HT.out, e9]
                       exact h9)
            · have hle : cs.length ≤ k := by omega
              clear hlt
              go_wp2
              go_ret2
              have ht : cs.take k = cs := List.take_of_length_le hle
              have e1 : newErr st it pe cs = 0 := by rw [E3.out, hdup.out, List.drop_eq_nil_of_le hle]; rfl
              rw [ht] at hsup
              exact ⟨hb, .inr ⟨e1, p, lv, hgt, hfr, rfl, hsup⟩⟩

end Go.Proofs.Ytiedfckgkjcheaa
