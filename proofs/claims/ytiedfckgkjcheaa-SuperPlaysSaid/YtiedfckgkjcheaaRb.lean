/- What New of parleyref29 answers; for a list that lies in memory. -/
import Derived.Test.YtiedfckgkjcheaaRa
namespace Go.Proofs.Ytiedfckgkjcheaa
open Go.RowKit

def RNewPost (w : World) (st it pe : Int) (cs : List CS) (e : Ending) (w' : World) : Prop :=
  Below w.heap.size w w' ∧ ((newErr st it pe cs ≠ 0 ∧ e = .returned (.tuple #[.pointer none, .int .i64 (newErr st it pe cs)])) ∨
    (newErr st it pe cs = 0 ∧ ∃ q lv rv fv fg, w.heap.size ≤ q ∧ Fresh w lv ∧ Fresh w rv ∧ Fresh w fv ∧ e = .returned (.tuple #[.pointer (some ⟨q, 0, none⟩), .int .i64 0]) ∧ IsRef w' q lv rv fv (.slice none 0 0) (newM st it pe cs) fg))

set_option maxHeartbeats 1000000 in
theorem rnew_bad (w : World) (st it pe : Int) (sv : Value) (h : badB st it pe = true) :
    Calls Try.prog 18 #[.int .i64 st, .int .i64 it, .int .i64 pe, sv] w fun e w' => e = .returned (.tuple #[.pointer none, .int .i64 1]) ∧ w = w' := by
  by_cases h1 : st < 1
  · go_enter Try.func18, Try.ntmps18
    go_wp2
    go_ret2
    exact ⟨rfl, rfl⟩
  have d1 : decide (st < 1) = false := by simp; omega
  by_cases h2 : 3 < st
  · go_enter Try.func18, Try.ntmps18
    go_wp2
    go_ret2
    exact ⟨rfl, rfl⟩
  have d2 : decide (3 < st) = false := by simp; omega
  by_cases h3 : it < 0
  · go_enter Try.func18, Try.ntmps18
    go_wp2
    go_ret2
    exact ⟨rfl, rfl⟩
  have d3 : decide (it < 0) = false := by simp; omega
  by_cases h4 : 1000 < it
  · go_enter Try.func18, Try.ntmps18
    go_wp2
    go_ret2
    exact ⟨rfl, rfl⟩
  have d4 : decide (1000 < it) = false := by simp; omega
  by_cases h5 : pe < 1
  · go_enter Try.func18, Try.ntmps18
    go_wp2
    go_ret2
    exact ⟨rfl, rfl⟩
  have d5 : decide (pe < 1) = false := by simp; omega
  by_cases h6 : 1152921504606846976 < pe
  · go_enter Try.func18, Try.ntmps18
    go_wp2
    go_ret2
    exact ⟨rfl, rfl⟩
  exfalso
  simp [badB] at h
  omega

set_option maxRecDepth 100000 in
set_option maxHeartbeats 4000000 in
theorem rnew_any (w : World) (st it pe : Int) (cs : List CS) (A : Option Addr) (cp : Nat) (hs : Src w eCS A cp cs) (hn : cs.length * 24 ≤ 140737488355328) :
    Calls Try.prog 18 #[.int .i64 st, .int .i64 it, .int .i64 pe, .slice A cs.length cp] w (RNewPost w st it pe cs) := by
  by_cases hbad : badB st it pe = true
  · refine (rnew_bad w st it pe _ hbad).mono ?_
    rintro e w' ⟨rfl, rfl⟩
    have e1 : newErr st it pe cs = 1 := by simp [newErr, hbad]
    exact ⟨Below.refl _ _, .inl ⟨by rw [e1]; decide, by rw [e1]⟩⟩
  have E0 : Kp (newErr st it pe cs = if cs.any (fun c => !rightB c) then 1 else if 32 < cs.length then 4 else if cs.any longB then 4 else if dupB [] cs then 6 else 0) := ⟨by simp [newErr, hbad]⟩
  have hb' : 1 ≤ st ∧ st < 4 ∧ 0 ≤ it ∧ it ≤ 1000 ∧ 1 ≤ pe ∧ pe ≤ 1152921504606846976 := by simp [badB] at hbad; omega
  clear hbad
  obtain ⟨b1, b2, b3, b4, b5, b6⟩ := hb'
  have d1 : decide (st < 1) = false := by simp; omega
  have d2 : decide (3 < st) = false := by simp; omega
  have d3 : decide (it < 0) = false := by simp; omega
  have d4 : decide (1000 < it) = false := by simp; omega
  have d5 : decide (pe < 1) = false := by simp; omega
  have d6 : decide (1152921504606846976 < pe) = false := by simp; omega
  go_enter Try.func18, Try.ntmps18
  go_wp2
  go_loopw [10] (fun i wr => ∃ k : Nat, k ≤ cs.length ∧ i = .int .i64 k ∧ Kp (cs.any (fun c => !rightB c) = (cs.drop k).any (fun c => !rightB c)) ∧ Below w.heap.size w wr) (fun i _ => cs.length - (intOf i).toNat)
  case atStart => exact ⟨0, Nat.zero_le _, rfl, ⟨rfl⟩, Below.refl _ _⟩
  case round =>
    obtain ⟨k, hk, rfl, hany, hb⟩ := hrel
    by_cases hlt : k < cs.length
    · cases A with
      | none => have := (hs.none rfl).1; subst this; simp at hlt
      | some ad =>
        obtain ⟨g, o, rfl⟩ := hs.addr (by omega)
        have hc : cs.drop k = cs[k] :: cs.drop (k + 1) := List.drop_eq_getElem_cons hlt
        have H1 : wr.cell? ⟨g, o + k * 2 + 1, none⟩ = some (.int .i64 cs[k].rs) := (hs.below hb).elem k 1 hlt (by decide)
        obtain ⟨c, hcc⟩ : ∃ c, c = cs[k] := ⟨_, rfl⟩
        rw [← hcc] at H1 hc
        clear hcc
        have HC := Kp.mk hc; clear hc
        by_cases r1 : c.rs < 1
        · go_wp2
          go_ret2
          have hr : (!rightB c) = true := by simp [rightB]; omega
          have e1 : newErr st it pe cs = 1 := by rw [E0.out, hany.out, HC.out]; simp [hr]
          exact ⟨hb, .inl ⟨by rw [e1]; decide, by rw [e1]; rfl⟩⟩
        have r1' : decide (c.rs < 1) = false := by simp; omega
        by_cases r2 : 3 < c.rs
        · go_wp2
          go_ret2
          have hr : (!rightB c) = true := by simp [rightB]; omega
          have e1 : newErr st it pe cs = 1 := by rw [E0.out, hany.out, HC.out]; simp [hr]
          exact ⟨hb, .inl ⟨by rw [e1]; decide, by rw [e1]; rfl⟩⟩
        have r2' : decide (3 < c.rs) = false := by simp; omega
        have hr : Kp ((!rightB c) = false) := ⟨by simp [rightB]; omega⟩
        go_wp2
        go_roundw
        case rel => exact ⟨k + 1, by omega, by go_num, ⟨by rw [hany.out, HC.out, List.any_cons, hr.out]; rfl⟩, hb⟩
        case measure => simp [intOf]; omega
    · have hle : cs.length ≤ k := by omega
      have E1 : Kp (newErr st it pe cs = if 32 < cs.length then 4 else if cs.any longB then 4 else if dupB [] cs then 6 else 0) :=
        ⟨by rw [E0.out, hany.out, List.drop_eq_nil_of_le hle]; rfl⟩
      clear hlt E0 hany
      by_cases hlen : 32 < cs.length
      · go_wp2
        go_ret2
        have e1 : newErr st it pe cs = 4 := by rw [E1.out, if_pos hlen]
        exact ⟨hb, .inl ⟨by rw [e1]; decide, by rw [e1]; rfl⟩⟩
      have E2 : Kp (newErr st it pe cs = if cs.any longB then 4 else if dupB [] cs then 6 else 0) := ⟨by rw [E1.out, if_neg hlen]⟩
      clear E1
      have hlen' : cs.length ≤ 32 := by omega
      have hd7 : decide (k < cs.length) = false := by simp; omega
      have hd8 : decide (32 < (cs.length : Int)) = false := by simp; omega
      clear hlen
      clear hk
      go_wp2
      go_loopw [11] (fun i wr => ∃ k : Nat, k ≤ cs.length ∧ i = .int .i64 k ∧ Kp (cs.any longB = (cs.drop k).any longB) ∧ Below w.heap.size w wr) (fun i _ => cs.length - (intOf i).toNat)
      case atStart => exact ⟨0, Nat.zero_le _, rfl, ⟨rfl⟩, hb⟩
      case round =>
        clear hb
        obtain ⟨k, hk, rfl, hany, hb⟩ := hrel
        by_cases hlt : k < cs.length
        · cases A with
          | none => have := (hs.none rfl).1; subst this; simp at hlt
          | some ad =>
            obtain ⟨g, o, rfl⟩ := hs.addr (by omega)
            have hc : cs.drop k = cs[k] :: cs.drop (k + 1) := List.drop_eq_getElem_cons hlt
            have H0 : wr.cell? ⟨g, o + k * 2, none⟩ = some (.string cs[k].name) := (hs.below hb).elem k 0 hlt (by decide)
            obtain ⟨c, hcc⟩ : ∃ c, c = cs[k] := ⟨_, rfl⟩
            rw [← hcc] at H0 hc
            clear hcc
            have HC := Kp.mk hc; clear hc
            by_cases hz : (c.name.size : Int) < 1
            · go_wp2
              go_ret2
              have e1 : newErr st it pe cs = 4 := by
                have hl : longB c = true := by unfold longB; rw [Bool.or_eq_true, decide_eq_true_eq, decide_eq_true_eq]; omega
                rw [E2.out, hany.out, HC.out]; simp [hl]
              exact ⟨hb, .inl ⟨by rw [e1]; decide, by rw [e1]; rfl⟩⟩
            have hd : decide ((c.name.size : Int) < 1) = false := by simp; omega
            by_cases hy : 255 < (c.name.size : Int)
            · go_wp2
              go_ret2
              have e1 : newErr st it pe cs = 4 := by
                have hl : longB c = true := by unfold longB; rw [Bool.or_eq_true, decide_eq_true_eq, decide_eq_true_eq]; omega
                rw [E2.out, hany.out, HC.out]; simp [hl]
              exact ⟨hb, .inl ⟨by rw [e1]; decide, by rw [e1]; rfl⟩⟩
            have hd2 : decide (255 < (c.name.size : Int)) = false := by simp; omega
            have hl : Kp (longB c = false) := ⟨by unfold longB; rw [Bool.or_eq_false_iff, decide_eq_false_iff_not, decide_eq_false_iff_not]; omega⟩
            go_wp2
            go_roundw
            case rel => exact ⟨k + 1, by omega, by go_num, ⟨by rw [hany.out, HC.out, List.any_cons, hl.out]; rfl⟩, hb⟩
            case measure => simp [intOf]; omega
        · have hle : cs.length ≤ k := by omega
          have E3 : Kp (newErr st it pe cs = if dupB [] cs then 6 else 0) :=
            ⟨by rw [E2.out, hany.out, List.drop_eq_nil_of_le hle]; rfl⟩
          have hd9 : decide (k < cs.length) = false := by simp; omega
          clear hlt E2 hany
          go_wp2
          go_loopw [12, 13] (fun i _ wr => ∃ k : Nat, k ≤ cs.length ∧ i = .int .i64 k ∧ Kp (dupB [] cs = dupB (cs.take k) (cs.drop k)) ∧ Below w.heap.size w wr) (fun i _ _ => cs.length - (intOf i).toNat)
          case atStart => exact ⟨0, Nat.zero_le _, rfl, ⟨rfl⟩, hb⟩
          case round =>
            clear hb hk hle
            obtain ⟨i, hk, rfl, hdup, hb⟩ := hrel
            by_cases hlt : i < cs.length
            · cases A with
              | none => have := (hs.none rfl).1; subst this; simp at hlt
              | some ad =>
                obtain ⟨g, o, rfl⟩ := hs.addr (by omega)
                have hc : cs.drop i = cs[i] :: cs.drop (i + 1) := List.drop_eq_getElem_cons hlt
                have ht : cs.take (i + 1) = cs.take i ++ [cs[i]] := List.take_succ_eq_append_getElem hlt
                obtain ⟨c, hcc⟩ : ∃ c, c = cs[i] := ⟨_, rfl⟩
                rw [← hcc] at hc ht
                have HCC := Kp.mk hcc
                have HC := Kp.mk hc
                have HT := Kp.mk ht
                clear hc ht hcc
                have i0 : (0 : Int) ≤ (i : Int) := by omega
                have i1 : (i : Int) < (cs.length : Int) := by omega
                go_wp2
                go_loopw [13] (fun j wr => ∃ k : Nat, k ≤ i ∧ j = .int .i64 k ∧ Kp ((cs.take i).any (fun d => beqS d.name c.name) = ((cs.take i).drop k).any (fun d => beqS d.name c.name)) ∧ Below w.heap.size w wr) (fun j _ => i - (intOf j).toNat)
                case atStart => exact ⟨0, Nat.zero_le _, rfl, ⟨rfl⟩, hb⟩
                case round =>
                  clear hb
                  obtain ⟨k, hki, rfl, hany, hb⟩ := hrel
                  by_cases hlk : k < i
                  · have hlk2 : k < (cs.take i).length := by rw [List.length_take]; omega
                    have hdk : (cs.take i).drop k = cs[k] :: (cs.take i).drop (k + 1) := by
                      rw [List.drop_eq_getElem_cons hlk2]; simp
                    have H0 : wr.cell? ⟨g, o + k * 2, none⟩ = some (.string cs[k].name) := (hs.below hb).elem k 0 (by omega) (by decide)
                    have H1 : wr.cell? ⟨g, o + i * 2, none⟩ = some (.string c.name) := by rw [HCC.out]; exact (hs.below hb).elem i 0 hlt (by decide)
                    obtain ⟨d, hdd⟩ : ∃ d, d = cs[k] := ⟨_, rfl⟩
                    rw [← hdd] at H0 hdk
                    have HD := Kp.mk hdk
                    clear hdd hdk
                    have k0 : (0 : Int) ≤ (k : Int) := by omega
                    have k1 : (k : Int) < (cs.length : Int) := by omega
                    cases hq : (c.name.toList == d.name.toList)
                    · have hq' : Kp (beqS d.name c.name = false) := ⟨by
                        unfold beqS
                        rw [beq_eq_false_iff_ne] at hq ⊢
                        exact fun e => hq e.symm⟩
                      go_wp2_with fail
                      go_quiet (fail)
                      go_wp2
                      go_roundw
                      case rel => exact ⟨k + 1, by omega, by go_num, ⟨by rw [hany.out, HD.out, List.any_cons, hq'.out]; rfl⟩, below_drewN hb _⟩
                      case measure => simp [intOf]; omega
                    · have hq' : Kp (beqS d.name c.name = true) := ⟨by
                        unfold beqS
                        rw [beq_iff_eq] at hq ⊢
                        exact hq.symm⟩
                      go_wp2_with fail
                      go_quiet (fail)
                      go_wp2
                      go_ret2
                      have e1 : newErr st it pe cs = 6 := by rw [E3.out, hdup.out, HC.out, dupB, hany.out, HD.out, List.any_cons, hq'.out]; rfl
                      exact ⟨below_drewN hb _, .inl ⟨by rw [e1]; decide, by rw [e1]; rfl⟩⟩
                  · obtain rfl : k = i := by omega
                    have HA : Kp ((cs.take k).any (fun d => beqS d.name c.name) = false) := ⟨by rw [hany.out, List.drop_eq_nil_of_le (List.length_take_le _ _)]; rfl⟩
                    clear hany
                    go_wp2
                    go_roundw
                    case rel => exact ⟨k + 1, by omega, by go_num, ⟨by rw [hdup.out, HC.out, dupB, HA.out, HT.out]; rfl⟩, hb⟩
                    case measure => simp [intOf]; omega
            · have hle : cs.length ≤ i := by omega
              have E4 : Kp (newErr st it pe cs = 0) := ⟨by rw [E3.out, hdup.out, List.drop_eq_nil_of_le hle]; rfl⟩
              have hd10 : decide (i < cs.length) = false := by simp; omega
              clear hlt E3 hdup hd9 hd8 hd7
              go_upto_region 24 with fail
              obtain ⟨q, hq⟩ : ∃ q, q = wr.heap.size := ⟨_, rfl⟩
              have hsz : w.heap.size ≤ wr.heap.size := hb.size
              have HB0 := blk_new wr (.cells #[.int .i64 st, .int .i64 it, .int .i64 pe, .slice none 0 0, .slice none 0 0, .slice none 0 0, .slice none 0 0, .int .i64 0, .bool false, .bool false] 55)
              have hqc : Kp (q = wr.heap.size) := ⟨hq⟩
              rw [← hq] at HB0
              have p3 := blk_c HB0 3
              have p3f := blk_f HB0 3
              have pl := lt_of_block HB0
              rw [← hq]
              clear hq
              have hown0 : Own (wr.alloc (.cells #[.int .i64 st, .int .i64 it, .int .i64 pe, .slice none 0 0, .slice none 0 0, .slice none 0 0, .slice none 0 0, .int .i64 0, .bool false, .bool false] 55)) 49 eCS (.slice none 0 0) [] := Own.nil _ _ _
              have hb1 : Below w.heap.size w (wr.alloc (.cells #[.int .i64 st, .int .i64 it, .int .i64 pe, .slice none 0 0, .slice none 0 0, .slice none 0 0, .slice none 0 0, .int .i64 0, .bool false, .bool false] 55)) := hb.alloc hb.size _
              have hsrc := hs.below hb1
              go_upto_region 25 with (at_builtin; refine app_ev T26 rfl _ _ rfl hown0 rfl hsrc rfl rfl (by simp only [List.length_nil]; omega) (by simp only [List.length_nil]; omega) ?_; intro A' n' c' w2 a0 a1 a2 a3; have B2 := a2.at HB0 (fun h => by cases h); have p3' := blk_c B2 3; have pf' := blk_f B2 3; have pl' := lt_of_block B2)
              have hl3 := a1.set_ne (q := q) (k := 3) (a1.ne B2 (by decide)) (.slice A' n' c')
              have B3 : (w2.setCell ⟨q, 3, none⟩ (.slice A' n' c')).heap[q]? = some (.cells #[.int .i64 st, .int .i64 it, .int .i64 pe, .slice A' n' c', .slice none 0 0, .slice none 0 0, .slice none 0 0, .int .i64 0, .bool false, .bool false] 55 (0, 0)) := blk_set B2 3 _
              have hq0 : w.heap.size ≤ q := by rw [hqc.out]; exact hsz
              have hfr3 : Fresh w (.slice A' n' c') := by
                rcases a3 with h | ⟨g, h, hg⟩
                · intro g hg; rw [h] at hg; cases hg
                · intro g' hg'; rw [h] at hg'; cases hg'; exact Nat.le_trans hb1.size hg
              have hb3 : Below w.heap.size w (w2.setCell ⟨q, 3, none⟩ (.slice A' n' c')) := (chg_below hb1 a2 (fun g hg => by cases hg) hb1.size).setCell hq0 _
              obtain ⟨v3, hv3⟩ : ∃ v, v = Value.slice A' n' c' := ⟨_, rfl⟩
              rw [← hv3] at hl3 B3 hfr3 hb3 ⊢
              clear HB0 p3 p3f pl hown0 hb1 hsrc a1 a2 a3 B2 p3' pf' pl' a0 hv3
              have nf : ∀ b : Nat, ¬ NoF b := fun _ h => h
              have NF := Kp.mk nf
              clear nf
              have p4 := blk_f B3 4
              have pl := lt_of_block B3
              go_upto_region 26 with (at_make; refine mk_ev Try.underlying52 (e := 4) (z := .bool false) (by_ := 1) (by kernel_rfl) rfl (E := eBool) false rfl rfl rfl _ _ rfl cs.length rfl rfl (by omega) (by omega) ?_; intro w4 m1 m2 m3; rw [show (w2.setCell ⟨q, 3, none⟩ v3).heap.size = w2.heap.size from by simp] at m1; have B4 := m2.at B3 (NF.out _); have q4 := blk_c B4 4; have q4f := blk_f B4 4; have q4l := lt_of_block B4)
              have hl4 := (hl3.frame m2 (fun _ _ => NF.out _)).set_ne (q := q) (k := 4) ((hl3.frame m2 (fun _ _ => NF.out _)).ne B4 (by decide)) (.slice (some ⟨w2.heap.size, 0, none⟩) cs.length cs.length)
              have hr4 := m1.set_ne (q := q) (k := 4) (m1.ne B4 (by decide)) (.slice (some ⟨w2.heap.size, 0, none⟩) cs.length cs.length)
              have hb4 := (chg_below hb3 m2 (fun g hg => (NF.out g hg).elim) hb3.size).setCell (p := ⟨q, 4, none⟩) hq0 (.slice (some ⟨w2.heap.size, 0, none⟩) cs.length cs.length)
              have B5 := blk_set B4 4 (.slice (some ⟨w2.heap.size, 0, none⟩) cs.length cs.length)
              have hfr4 : Fresh w (.slice (some ⟨w2.heap.size, 0, none⟩) cs.length cs.length) := fun g hg => by cases hg; have := hb3.size; simp at this; exact this
              obtain ⟨g4, hg4⟩ : ∃ g, g = w2.heap.size := ⟨_, rfl⟩
              have hg4l : g4 < w4.heap.size := by rw [hg4]; simpa using m3
              rw [← hg4] at hl4 hr4 hb4 B5 hfr4 ⊢
              have p4 := blk_f B5 5
              have pl := lt_of_block B5
              clear m1 m2 m3 B4 q4 q4f q4l hl3 B3 hg4
              go_wp2_with (at_make; (refine mk_ev Try.underlying52 (e := 4) (z := .bool false) (by_ := 1) (by kernel_rfl) rfl (E := eBool) false rfl rfl rfl _ _ rfl cs.length rfl rfl (by omega) (by omega) ?_; intro w6 m1 m2 m3; rw [show (w4.setCell ⟨q, 4, none⟩ (.slice (some ⟨g4, 0, none⟩) cs.length cs.length)).heap.size = w4.heap.size from by simp] at m1; have B6 := m2.at B5 (NF.out _); have q6 := blk_c B6 5; have q6f := blk_f B6 5; have q6l := lt_of_block B6))
              go_ret2
              have nf : ∀ g, (∀ v : Value, v.ownBlock = some g → ¬ NoF g) := fun g _ _ => NF.out _
              have k1 := hl4.frame m2 (fun _ _ => NF.out _)
              have k2 := hr4.frame m2 (fun _ _ => NF.out _)
              refine ⟨(chg_below hb4 m2 (fun g hg => (NF.out g hg).elim) hb4.size).setCell (p := ⟨q, 5, none⟩) hq0 (.slice (some ⟨w4.heap.size, 0, none⟩) cs.length cs.length), .inr ⟨E4.out, q, v3, .slice (some ⟨g4, 0, none⟩) cs.length cs.length, .slice (some ⟨w4.heap.size, 0, none⟩) cs.length cs.length, List.replicate cs.length false, hq0, hfr3, hfr4, fun g hg => ?_, rfl, ?_⟩⟩
              · cases hg
                have := hb4.size
                simpa using this
              · refine ⟨?_, ?_, ?_, m1.set_ne (m1.ne B6 (by decide)) _, Own.nil _ _ _, by simp [newM], ?_⟩
                · rw [blk_set B6]; rfl
                · have e : (newM st it pe cs).l.map kid = cs := by simp [newM, mkCh, kid, Function.comp_def]
                  rw [e]; exact k1.set_ne (k1.ne B6 (by decide)) _
                · have e : (newM st it pe cs).l.map (·.runs) = List.replicate cs.length false := by
                    simp only [newM, List.map_map]
                    have : ((fun (x : Ch) => x.runs) ∘ mkCh) = fun _ => false := rfl
                    rw [this, List.map_const']
                  rw [e]; exact k2.set_ne (k2.ne B6 (by decide)) _
                · intro g hg
                  have k5 : g4 = g := by simpa [Value.ownBlock] using hg
                  intro h
                  have k6 : w4.heap.size = g := by simpa [Value.ownBlock] using h
                  omega

end Go.Proofs.Ytiedfckgkjcheaa
