/- What refs, awake, laid of package timer's law answer; bounds stand in each statement. -/
import Derived.Test.YtobgabjoehjpcaaSm
namespace Go.Proofs.Ytobgabjoehjpcaa
open Go.RowKit

set_option maxHeartbeats 1000000 in
theorem refs_eq (w : World) (l : List Int) (A1 A2 : Option Addr) (c1 c2 : Nat) (ha : Src w eI64 A1 c1 l) (hb : Src w eI64 A2 c2 l) (hn : l.length ≤ 1000000000) :
    Calls Try.prog 15 #[.slice A1 l.length c1, .slice A2 l.length c2] w fun e w' => e = .returned (.bool true) ∧ Below w.heap.size w w' := by
  have hne : ((l.length : Int) != (l.length : Int)) = false := by simp
  go_enter Try.func15, Try.ntmps15
  go_wp2
  go_loopw [5, 13] (fun _ i wr => ∃ k : Nat, k ≤ l.length ∧ i = .int .i64 k ∧ Below w.heap.size w wr) (fun _ i _ => l.length - (intOf i).toNat)
  case atStart => exact ⟨0, Nat.zero_le _, rfl, Below.refl _ _⟩
  case round =>
    obtain ⟨k, hk, rfl, hbw⟩ := hrel
    by_cases hlt : k < l.length
    · cases A1 with
      | none => have := (ha.none rfl).1; subst this; simp at hlt
      | some x =>
      cases A2 with
      | none => have := (hb.none rfl).1; subst this; simp at hlt
      | some y =>
        obtain ⟨g, o, rfl⟩ := ha.addr (by omega)
        obtain ⟨g2, o2, rfl⟩ := hb.addr (by omega)
        have H0 : wr.cell? ⟨g, o + k, none⟩ = some (.int .i64 l[k]) := by have := (ha.below hbw).elem k 0 hlt (by decide); simpa [eI64] using this
        have G0 : wr.cell? ⟨g2, o2 + k, none⟩ = some (.int .i64 l[k]) := by have := (hb.below hbw).elem k 0 hlt (by decide); simpa [eI64] using this
        obtain ⟨x, hx⟩ : ∃ x, x = l[k] := ⟨_, rfl⟩
        rw [← hx] at H0 G0
        clear hx
        have k0 : (0 : Int) ≤ (k : Int) := by omega
        have k1 : (k : Int) < (l.length : Int) := by omega
        have hq : (x != x) = false := by simp
        go_wp2_with fail
        go_quiet (fail)
        go_wp2
        go_roundw
        case rel => exact ⟨k + 1, by omega, by go_num, below_drewN hbw _⟩
        case measure => simp [intOf]; omega
    · have hle : l.length ≤ k := by omega
      clear hlt
      go_wp2
      go_ret
      exact ⟨rfl, hbw⟩
/-- Both, as they have been set. -/
structure MS where
  l : List Ent
  ts : List Ent
  tn : Int
def MS.set (s : MS) (ref dl : Int) : MS := if setE s.l ref dl = 0 then ⟨setL s.l s.tn ref dl, s.ts ++ [⟨ref, dl, s.tn + 1⟩], s.tn + 1⟩ else s
structure Ok (s : MS) : Prop where
  sim : Sim s.l s.ts s.tn
  len : s.l.length ≤ 256
  tn0 : 0 ≤ s.tn
theorem Ok.nil : Ok ⟨[], [], 0⟩ := ⟨Sim.nil, by decide, Int.le_refl _⟩
theorem Ok.tlen {s : MS} (h : Ok s) : s.ts.length = s.l.length := h.sim.perm.length_eq.symm
theorem Ok.set {s : MS} (h : Ok s) (ref dl : Int) : Ok (s.set ref dl) := by
  unfold MS.set
  split
  · rename_i h0
    have h1 := h.sim.set ref dl h0
    refine ⟨h1, ?_, by show 0 ≤ s.tn + 1; have := h.tn0; omega⟩
    show (setL s.l s.tn ref dl).length ≤ 256
    obtain ⟨_, _, h4⟩ := setE_0 h0
    unfold setL
    rw [upL_len]
    simp; omega
  · exact h
theorem MS.tn_le (s : MS) (ref dl : Int) : (s.set ref dl).tn ≤ s.tn + 1 := by unfold MS.set; split <;> (try simp only []) <;> omega
/-- The program's Set of a state. -/
theorem m_set (w : World) (p : Nat) (qv : Value) (s : MS) (ref dl : Int) (h : IsWh w p qv s.l s.tn) (hs : Ok s) (ht : s.tn ≤ 1000000000000000000) :
    Calls Try.prog 18 #[.pointer (some ⟨p, 0, none⟩), .int .i64 ref, .int .i64 dl] w fun e w' => e = .returned (.int .i64 (setE s.l ref dl)) ∧ ∃ qv', IsWh w' p qv' (s.set ref dl).l (s.set ref dl).tn ∧ Same w qv qv' ∧ Chg (FW p qv) w w' := by
  refine (set_any w p qv s.l s.tn ref dl h hs.len hs.tn0 ht).mono ?_
  rintro e w' ⟨rfl, ⟨hne, hb⟩ | ⟨h0, qv', h1, h2, h3⟩⟩
  · refine ⟨rfl, qv, ?_, .inl rfl, Chg.of_below hb _⟩
    unfold MS.set
    rw [if_neg hne]
    exact h.below hb
  · refine ⟨rfl, qv', ?_, h2, h3⟩
    unfold MS.set
    rw [if_pos h0]
    exact h1
/-- The reference's. -/
theorem m_rset (w : World) (q : Nat) (lv : Value) (s : MS) (ref dl : Int) (h : IsRf w q lv s.ts) (hs : Ok s) :
    Calls Try.prog 19 #[.pointer (some ⟨q, 0, none⟩), .int .i64 ref, .int .i64 dl] w fun e w' => e = .returned (.int .i64 (setE s.l ref dl)) ∧ ∃ lv', IsRf w' q lv' (s.set ref dl).ts ∧ Same w lv lv' ∧ Chg (FW q lv) w w' := by
  refine (rset_any w q lv s.ts (s.tn + 1) ref dl h (by rw [hs.tlen]; exact hs.len)).mono ?_
  rintro e w' ⟨rfl, ⟨hne, hb⟩ | ⟨h0, lv', h1, h2, h3⟩⟩
  · rw [← setE_perm hs.sim.perm] at hne ⊢
    refine ⟨rfl, lv, ?_, .inl rfl, Chg.of_below hb _⟩
    unfold MS.set
    rw [if_neg hne]
    exact h.below hb
  · rw [← setE_perm hs.sim.perm] at h0 ⊢
    refine ⟨rfl, lv', ?_, h2, h3⟩
    unfold MS.set
    rw [if_pos h0]
    exact h1
theorem dueE_1 {now : Int} (h : now < 0 ∨ 1152921504606846976 < now) : dueE now = 1 := by unfold dueE; rw [if_pos h]
theorem dueE_0 {now : Int} (h : 0 ≤ now) (k : now ≤ 1152921504606846976) : dueE now = 0 := by unfold dueE; rw [if_neg (by omega)]
theorem m_due (w : World) (p : Nat) (qv : Value) (l : List Ent) (tn now : Int) (h : IsWh w p qv l tn) (hn : l.length ≤ 100000) (h0 : 0 ≤ now) (h1 : now ≤ 1152921504606846976) :
    Calls Try.prog 14 #[.pointer (some ⟨p, 0, none⟩), .int .i64 now] w fun e w' => ∃ A c qv', e = .returned (.tuple #[.slice A (dueL l now).1.length c, .int .i64 0]) ∧ Own w' 2 eI64 (.slice A (dueL l now).1.length c) (eRef (dueL l now).1) ∧ Fresh w (.slice A (dueL l now).1.length c) ∧ IsWh w' p qv' (dueL l now).2 tn ∧ qv'.ownBlock = qv.ownBlock ∧ Chg (FW p qv) w w' := by
  refine (due_any w p qv l tn now h hn).mono ?_
  rintro e w' (⟨he, _⟩ | ⟨_, A, c, rfl, h2, h3, qv', h4, h5, h6⟩)
  · rw [dueE_0 h0 h1] at he; cases he
  · exact ⟨A, c, qv', rfl, h2, h3, h4, h5, h6⟩
theorem due_le (n : Nat) : ∀ (l : List Ent) (now : Int), l.length = n → (dueL l now).2.length ≤ l.length ∧ (dueL l now).1.length ≤ l.length := by
  induction n with
  | zero =>
    intro l now hl
    rw [dueL_no _ _ (fun h => h.1 (List.eq_nil_of_length_eq_zero hl))]
    exact ⟨Nat.le_refl _, by simp⟩
  | succ n ih =>
    intro l now hl
    by_cases hd : l ≠ [] ∧ (gt l 0).dl ≤ now
    · rw [dueL_one _ _ hd]
      have hp := popL_len l (l.length - 1) (by omega)
      have := ih (popL l (l.length - 1)) now (by omega)
      simp only [List.length_cons]
      omega
    · rw [dueL_no _ _ hd]
      exact ⟨Nat.le_refl _, by simp⟩
/-- Whatever comes of Due. -/
theorem m_due_w (w : World) (p : Nat) (qv : Value) (l : List Ent) (tn now : Int) (h : IsWh w p qv l tn) (hn : l.length ≤ 100000) :
    Calls Try.prog 14 #[.pointer (some ⟨p, 0, none⟩), .int .i64 now] w fun e w' => ∃ A n c qv' l', e = .returned (.tuple #[.slice A n c, .int .i64 (dueE now)]) ∧ IsWh w' p qv' l' tn ∧ l'.length ≤ l.length ∧ qv'.ownBlock = qv.ownBlock ∧ Chg (FW p qv) w w' := by
  refine (due_any w p qv l tn now h hn).mono ?_
  rintro e w' (⟨he, rfl, rfl⟩ | ⟨he, A, c, rfl, h2, h3, qv', h4, h5, h6⟩)
  · exact ⟨none, 0, 0, qv, l, by rw [he], h, Nat.le_refl _, rfl, Chg.refl _ _⟩
  · exact ⟨A, _, c, qv', _, by rw [he], h4, (due_le _ l now rfl).1, h5, h6⟩
theorem Own.wh {w w' : World} {v : Value} {l : List Int} {p : Nat} {qv : Value} {es : List Ent} {tn : Int} (h : Own w 2 eI64 v l) (hw : IsWh w p qv es tn) (hc : Chg (FW p qv) w w') : Own w' 2 eI64 v l :=
  h.frame hc fun g hg hF => by
    rcases hF with rfl | hF
    · exact h.ne hw.blk (by decide) hg
    · obtain ⟨cur, hcur⟩ := hw.own.blk' hF
      exact h.ne hcur (by decide) hg
theorem IsWh.fwlt {w : World} {p : Nat} {qv : Value} {l : List Ent} {tn : Int} (h : IsWh w p qv l tn) (g : Nat) (hg : FW p qv g) : g < w.heap.size := by
  rcases hg with rfl | hg
  · exact h.lt
  · exact h.own.lt hg
theorem IsRf.fwlt {w : World} {q : Nat} {lv : Value} {l : List Ent} (h : IsRf w q lv l) (g : Nat) (hg : FW q lv g) : g < w.heap.size := by
  rcases hg with rfl | hg
  · exact h.lt
  · exact h.own.lt hg
end Go.Proofs.Ytobgabjoehjpcaa
