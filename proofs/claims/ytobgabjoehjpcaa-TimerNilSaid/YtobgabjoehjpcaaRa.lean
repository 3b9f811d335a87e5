/- The reference's wheel in memory; what its find, Set, When, out, Cancel answer; no condition but bounds. -/
import Derived.Test.YtobgabjoehjpcaaI
namespace Go.Proofs.Ytobgabjoehjpcaa
open Go.RowKit

/-- An entry as the reference keeps it: without its turn. -/
def eTm : El Ent := ⟨2, fun e => [.int .i64 e.ref, .int .i64 e.dl], fun _ => rfl, fun _ u h => by simp at h; rcases h with rfl | rfl <;> rfl, by decide⟩
theorem T38 : SlT Try.prog 38 66 eTm 16 := SlT.mk' (k := 2) (z := .agg #[.int .i64 0, .int .i64 0]) Try.underlying38 (by kernel_rfl) rfl rfl
structure IsRf (w : World) (q : Nat) (lv : Value) (ts : List Ent) : Prop where
  blk : w.heap[q]? = some (.cells #[lv] 40 (0, 0))
  own : Own w 66 eTm lv ts
section
variable {w w' : World} {q : Nat} {lv : Value} {ts : List Ent}
theorem IsRf.c0 (h : IsRf w q lv ts) : w.cell? ⟨q, 0, none⟩ = some lv := blk_c h.blk 0
theorem IsRf.fz (h : IsRf w q lv ts) (k : Nat) : w.frozen? ⟨q, k, none⟩ = false := blk_f h.blk k
theorem IsRf.lt (h : IsRf w q lv ts) : q < w.heap.size := lt_of_block h.blk
theorem IsRf.ne (h : IsRf w q lv ts) : lv.ownBlock ≠ some q := h.own.ne h.blk (by decide)
theorem IsRf.frame (h : IsRf w q lv ts) {F : Nat → Prop} (hc : Chg F w w') (hF : ∀ g, FW q lv g → ¬ F g) : IsRf w' q lv ts :=
  ⟨hc.at h.blk (hF q (.inl rfl)), h.own.frame hc fun g hg => hF g (.inr hg)⟩
theorem IsRf.below (h : IsRf w q lv ts) (hb : Below w.heap.size w w') : IsRf w' q lv ts := h.frame (Chg.of_below hb NoF) fun _ _ h => h
theorem IsRf.set {lv' : Value} {ts' : List Ent} (hb : w.heap[q]? = some (.cells #[lv] 40 (0, 0))) (ho : Own w 66 eTm lv' ts') : IsRf (w.setCell ⟨q, 0, none⟩ lv') q lv' ts' :=
  ⟨by rw [blk_set hb]; rfl, ho.set_ne (ho.ne hb (by decide)) _⟩
theorem IsRf.sh (h : IsRf w q lv ts) : ∃ A c, lv = .slice A ts.length c ∧ w.cell? ⟨q, 0, none⟩ = some (.slice A ts.length c) := by
  obtain ⟨A, c, hv, _⟩ := h.own.shape
  exact ⟨A, c, hv, by rw [← hv]; exact h.c0⟩
/-- What the program's wheel turns leaves the reference. -/
theorem IsRf.apart {p : Nat} {qv : Value} {l : List Ent} {tn : Int} (h : IsRf w q lv ts) (hw : IsWh w p qv l tn) (hc : Chg (FW p qv) w w') : IsRf w' q lv ts :=
  h.frame hc fun g hg hF => by
    rcases hF with rfl | hF
    · rcases hg with rfl | hg
      · have := h.blk; rw [hw.blk] at this; cases this
      · exact h.own.ne hw.blk (by decide) hg
    · obtain ⟨cur, hcur⟩ := hw.own.blk' hF
      rcases hg with rfl | hg
      · have := h.blk; rw [hcur] at this; cases this
      · exact h.own.ne hcur (by decide) hg
theorem IsWh.apart {p : Nat} {qv : Value} {l : List Ent} {tn : Int} (hw : IsWh w p qv l tn) (h : IsRf w q lv ts) (hc : Chg (FW q lv) w w') : IsWh w' p qv l tn :=
  hw.frame hc fun g hg hF => by
    rcases hF with rfl | hF
    · rcases hg with rfl | hg
      · have := h.blk; rw [hw.blk] at this; cases this
      · exact hw.own.ne h.blk (by decide) hg
    · obtain ⟨cur, hcur⟩ := h.own.blk' hF
      rcases hg with rfl | hg
      · have := hw.blk; rw [hcur] at this; cases this
      · exact hw.own.ne hcur (by decide) hg
end
set_option maxHeartbeats 1000000 in
theorem find_any (w : World) (q : Nat) (lv : Value) (l : List Ent) (r : Int) (h : IsRf w q lv l) (hn : l.length ≤ 1000000) :
    Calls Try.prog 31 #[.pointer (some ⟨q, 0, none⟩), .int .i64 r] w (IndexPost l r w) := by
  obtain ⟨A, c, hv, q0⟩ := h.sh
  have ho := h.own
  rw [hv] at ho
  have hs := Kp.mk (ho.src rfl)
  clear h ho hv
  go_enter Try.func31, Try.ntmps31
  go_wp2
  go_loopw [5, 6, 12] (fun _ _ i wr => ∃ k : Nat, k ≤ l.length ∧ i = .int .i64 k ∧ Kp (∀ j, j < k → (gt l j).ref ≠ r) ∧ Kp (Below w.heap.size w wr)) (fun _ _ i _ => l.length - (intOf i).toNat)
  case atStart => exact ⟨0, Nat.zero_le _, rfl, ⟨fun j h => by omega⟩, ⟨Below.refl _ _⟩⟩
  case round =>
    obtain ⟨k, hk, rfl, HNO, hb⟩ := hrel
    by_cases hlt : k < l.length
    · cases A with
      | none => have := (hs.out.none rfl).1; subst this; simp at hlt
      | some ad =>
        obtain ⟨g, o, rfl⟩ := hs.out.addr (by omega)
        have hgt : gt l k = l[k] := by unfold gt; rw [List.getD_eq_getElem?_getD, List.getElem?_eq_getElem hlt]; rfl
        have H0 : wr.cell? ⟨g, o + k * 2, none⟩ = some (.int .i64 (gt l k).ref) := by rw [hgt]; exact (hs.out.below hb.out).elem k 0 hlt (by decide)
        have H1 : wr.cell? ⟨g, o + k * 2 + 1, none⟩ = some (.int .i64 (gt l k).dl) := by rw [hgt]; exact (hs.out.below hb.out).elem k 1 hlt (by decide)
        obtain ⟨x, hx⟩ : ∃ x, x = gt l k := ⟨_, rfl⟩
        have HX := Kp.mk hx
        rw [← hx] at H0 H1
        have HB1 : Kp (Below w.heap.size w (wr.alloc (.cells #[.int .i64 x.ref, .int .i64 x.dl] 66))) := ⟨hb.out.alloc hb.out.size _⟩
        clear hgt hx
        by_cases hq : x.ref = r
        · have hqb : (x.ref == r) = true := by simpa using hq
          have HQ := Kp.mk hq
          clear hq
          go_wp2
          go_ret
          exact ⟨k, .inl ⟨k, hlt, rfl, by rw [← HX.out]; exact HQ.out, HNO.out⟩, rfl, HB1.out⟩
        · have hqb : (x.ref == r) = false := by simpa using hq
          have HQ := Kp.mk hq
          clear hq
          go_wp2
          go_roundw
          case rel =>
            refine ⟨k + 1, by omega, by go_num, ⟨?_⟩, HB1⟩
            intro j hj
            by_cases e : j = k
            · subst e; rw [← HX.out]; exact HQ.out
            · exact HNO.out j (by omega)
          case measure => simp [intOf]; omega
    · have hle : l.length ≤ k := by omega
      clear hlt
      go_wp2
      go_ret
      exact ⟨-1, .inr ⟨rfl, fun j hj => HNO.out j (by omega)⟩, rfl, hb.out⟩
def RSetPost (w : World) (q : Nat) (lv : Value) (l : List Ent) (tn ref dl : Int) (e : Ending) (w' : World) : Prop :=
  e = .returned (.int .i64 (setE l ref dl)) ∧ ((setE l ref dl ≠ 0 ∧ Below w.heap.size w w') ∨ (setE l ref dl = 0 ∧ ∃ lv', IsRf w' q lv' (l ++ [⟨ref, dl, tn⟩]) ∧ Same w lv lv' ∧ Chg (FW q lv) w w'))
set_option maxRecDepth 100000 in
set_option maxHeartbeats 2000000 in
theorem rset_any (w : World) (q : Nat) (lv : Value) (l : List Ent) (tn ref dl : Int) (h : IsRf w q lv l) (hn : l.length ≤ 256) :
    Calls Try.prog 19 #[.pointer (some ⟨q, 0, none⟩), .int .i64 ref, .int .i64 dl] w (RSetPost w q lv l tn ref dl) := by
  have HH := Kp.mk h
  by_cases h1 : ref < 1
  · have e : Kp (setE l ref dl = 1) := ⟨by unfold setE; rw [if_pos (.inl h1)]⟩
    have d1 : decide (ref < 1) = true := by simpa using h1
    clear h
    go_enter Try.func19, Try.ntmps19
    go_wp2
    go_ret
    exact ⟨by rw [e.out]; rfl, .inl ⟨by rw [e.out]; decide, Below.refl _ _⟩⟩
  have d1 : decide (ref < 1) = false := by simpa using h1
  by_cases h2 : 281474976710656 < ref
  · have e : Kp (setE l ref dl = 1) := ⟨by unfold setE; rw [if_pos (.inr (.inl h2))]⟩
    have d2 : decide (281474976710656 < ref) = true := by simpa using h2
    clear h
    go_enter Try.func19, Try.ntmps19
    go_wp2
    go_ret
    exact ⟨by rw [e.out]; rfl, .inl ⟨by rw [e.out]; decide, Below.refl _ _⟩⟩
  have d2 : decide (281474976710656 < ref) = false := by simpa using h2
  by_cases h3 : dl < 0
  · have e : Kp (setE l ref dl = 1) := ⟨by unfold setE; rw [if_pos (.inr (.inr (.inl h3)))]⟩
    have d3 : decide (dl < 0) = true := by simpa using h3
    clear h
    go_enter Try.func19, Try.ntmps19
    go_wp2
    go_ret
    exact ⟨by rw [e.out]; rfl, .inl ⟨by rw [e.out]; decide, Below.refl _ _⟩⟩
  have d3 : decide (dl < 0) = false := by simpa using h3
  by_cases h4 : 1152921504606846976 < dl
  · have e : Kp (setE l ref dl = 1) := ⟨by unfold setE; rw [if_pos (.inr (.inr (.inr h4)))]⟩
    have d4 : decide (1152921504606846976 < dl) = true := by simpa using h4
    clear h
    go_enter Try.func19, Try.ntmps19
    go_wp2
    go_ret
    exact ⟨by rw [e.out]; rfl, .inl ⟨by rw [e.out]; decide, Below.refl _ _⟩⟩
  have d4 : decide (1152921504606846976 < dl) = false := by simpa using h4
  have hno : ¬ (ref < 1 ∨ 281474976710656 < ref ∨ dl < 0 ∨ 1152921504606846976 < dl) := by omega
  have HNO := Kp.mk hno
  have HAT := Kp.mk (find_any w q lv l ref h (by omega))
  clear h hno
  go_enter Try.func19, Try.ntmps19
  go_wp2_with fail
  refine HAT.out.mono ?_
  rintro e w1 ⟨k, hk, rfl, hb1⟩
  have hneg := hk.neg
  have H1 := Kp.mk (HH.out.below hb1)
  have HB1 := Kp.mk hb1
  by_cases hk0 : 0 ≤ k
  · have e : Kp (setE l ref dl = 6) := ⟨by unfold setE; rw [if_neg HNO.out, if_pos (Classical.byContradiction fun hc => by have := hneg.2 hc; omega)]⟩
    have dk : decide (0 ≤ k) = true := by simpa using hk0
    clear hk hneg hb1 HAT
    go_wp2
    go_ret
    exact ⟨by rw [e.out]; rfl, .inl ⟨by rw [e.out]; decide, HB1.out⟩⟩
  have dk : decide (0 ≤ k) = false := by simpa using hk0
  have hne : ¬ ∃ j, j < l.length ∧ (gt l j).ref = ref := hneg.1 (by omega)
  obtain ⟨A, c, hv, q0⟩ := H1.out.sh
  by_cases hfull : 256 ≤ l.length
  · have e : Kp (setE l ref dl = 8) := ⟨by unfold setE; rw [if_neg HNO.out, if_neg hne, if_pos hfull]⟩
    have df : decide ((256 : Int) ≤ (l.length : Int)) = true := by simp; omega
    have df2 : (256 : Int) ≤ (l.length : Int) := by omega
    clear hk hneg hb1 HAT hne hv
    go_wp2
    go_ret
    exact ⟨by rw [e.out]; rfl, .inl ⟨by rw [e.out]; decide, HB1.out⟩⟩
  have e : Kp (setE l ref dl = 0) := ⟨by unfold setE; rw [if_neg HNO.out, if_neg hne, if_neg hfull]⟩
  have df : decide ((256 : Int) ≤ (l.length : Int)) = false := by simp; omega
  have df2 : ¬ ((256 : Int) ≤ (l.length : Int)) := by omega
  have ho := H1.out.own
  rw [hv] at ho
  have HNE : Kp ((Value.slice A l.length c).ownBlock ≠ some q) := ⟨by rw [← hv]; exact H1.out.ne⟩
  have HV := Kp.mk hv
  clear hk hneg hb1 HAT hne hv
  go_wp2_with (at_builtin; refine app1_ev T38 (⟨ref, dl, tn⟩ : Ent) rfl _ _ rfl ho rfl rfl rfl (by simp) rfl (by omega) (by omega) ?_; intro A' n' c' w2 a0 a1 a2 a3; have B2 := a2.at H1.out.blk HNE.out; have q2 := blk_c B2 0; have z2 := blk_f B2 0; have l2 := lt_of_block B2)
  go_ret
  refine ⟨by rw [e.out]; rfl, .inr ⟨e.out, _, IsRf.set B2 a1, ?_, ?_⟩⟩
  · rw [HV.out]
    rcases a3 with h | ⟨g, h, h2⟩
    · exact .inl h
    · exact .inr ⟨g, h, Nat.le_trans HB1.out.size h2⟩
  · rw [HV.out]
    exact ((Chg.of_below HB1.out _).then (a2.mono fun g _ hg => .inr hg)).set (p := ⟨q, 0, none⟩) (.inl (.inl rfl)) _
set_option maxHeartbeats 1000000 in
theorem rwhen_any (w : World) (q : Nat) (lv : Value) (l : List Ent) (ref : Int) (h : IsRf w q lv l) (hn : l.length ≤ 1000000) :
    Calls Try.prog 22 #[.pointer (some ⟨q, 0, none⟩), .int .i64 ref] w (WhenPost w l ref) := by
  have HH := Kp.mk h
  have HAT := Kp.mk (find_any w q lv l ref h hn)
  clear h
  go_enter Try.func22, Try.ntmps22
  go_wp2_with fail
  refine HAT.out.mono ?_
  rintro e w1 ⟨k, hk, rfl, hb1⟩
  have H1 := Kp.mk (HH.out.below hb1)
  have HB1 := Kp.mk hb1
  have hneg := hk.neg
  rcases hk with ⟨i, hi, rfl, he, hno⟩ | ⟨rfl, hno⟩
  · have e : Kp (whenE l ref = 0) := ⟨by unfold whenE; rw [if_pos ⟨i, hi, he⟩]⟩
    obtain ⟨A, c, hv, q0⟩ := H1.out.sh
    have ho := H1.out.own
    rw [hv] at ho
    obtain ⟨g, rfl⟩ : ∃ g, A = some ⟨g, 0, none⟩ := by
      obtain ⟨A2, c2, hv2, _, _, hs0, hs1⟩ := ho.shape
      have ea : A = A2 := by injection hv2
      cases hA : A2 with
      | none => have h1 := (hs0 hA).1; rw [h1] at hi; simp at hi
      | some x => obtain ⟨g, rfl⟩ := hs1 x hA; exact ⟨g, by rw [ea, hA]⟩
    have hgt : gt l i = l[i] := by unfold gt; rw [List.getD_eq_getElem?_getD, List.getElem?_eq_getElem hi]; rfl
    have a1 : w1.cell? ⟨g, i * 2 + 1, none⟩ = some (.int .i64 (gt l i).dl) := by rw [hgt]; exact ho.elem i 1 hi (by decide)
    have k0 : (0 : Int) ≤ (i : Int) := by omega
    have k1 : (i : Int) < (l.length : Int) := by omega
    have F := Kp.mk (And.intro hi (And.intro he hno))
    obtain ⟨x, hx⟩ : ∃ x, x = gt l i := ⟨_, rfl⟩
    rw [← hx] at a1
    have HX := Kp.mk hx
    clear he hno hneg hb1 HAT hv ho hx hgt
    go_wp2
    go_ret2
    exact ⟨x.dl, by rw [e.out]; rfl, .inr ⟨e.out, i, F.out.1, F.out.2.1, F.out.2.2, by rw [HX.out]⟩, HB1.out⟩
  · have e : Kp (whenE l ref = 5) := ⟨by unfold whenE; rw [if_neg (hneg.1 (by omega))]⟩
    clear hno hneg hb1 HAT
    go_wp2
    go_ret2
    exact ⟨0, by rw [e.out]; rfl, .inl ⟨e.out, rfl⟩, HB1.out⟩
end Go.Proofs.Ytobgabjoehjpcaa
