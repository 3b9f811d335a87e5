/- What super.Stop answers; for at most 1000 children. -/
import Derived.Test.YtiedfckgkjcheaaQ
namespace Go.Proofs.Ytiedfckgkjcheaa
open Go.RowKit

def stopF (mt : Nat → Bool) (fx : Ch → Ch) (i : Nat) (c : Ch) : Ch := if c.runs && mt i then setR false (fx c) else c
def agF (l : List Ch) (mt : Nat → Bool) (ga : Ch → Bool) (j : Nat) (i : Nat) (b : Bool) : Bool := if j ≤ i then (match l[i]? with | some c => if c.runs && mt i then ga c else b | none => b) else b
def dA (l : List Ch) (mt : Nat → Bool) (j : Nat) : List AM := (((l.zipIdx.drop j).filter fun x => x.1.runs && mt x.2).map fun x => ⟨false, x.1.name⟩).reverse
theorem dA_step (l : List Ch) (mt : Nat → Bool) (m : Nat) (h : m < l.length) : dA l mt m = dA l mt (m + 1) ++ if l[m].runs && mt m then [⟨false, l[m].name⟩] else [] := by
  unfold dA
  rw [List.drop_eq_getElem_cons (by simpa using h)]
  simp only [List.getElem_zipIdx, Nat.zero_add, List.filter_cons]
  cases h1 : (l[m].runs && mt m) <;> simp
theorem dA_len (l : List Ch) (mt : Nat → Bool) (m : Nat) : (dA l mt m).length ≤ l.length := by
  unfold dA
  rw [List.length_reverse, List.length_map]
  refine Nat.le_trans (List.length_filter_le _ _) ?_
  simp
theorem agF_step (l : List Ch) (mt : Nat → Bool) (ga : Ch → Bool) (m : Nat) (h : m < l.length) : agF l mt ga m = fun i b => if i = m then (if l[m].runs && mt m then ga l[m] else b) else agF l mt ga (m + 1) i b := by
  funext i b
  unfold agF
  by_cases e : i = m
  · subst e
    simp [h]
  · rw [if_neg e]
    by_cases e2 : m + 1 ≤ i
    · rw [if_pos e2, if_pos (by omega)]
    · rw [if_neg e2, if_neg (by omega)]
def MeantPost (p : Nat) (lv ev : Value) (s : SupM) (G : Nat → Prop) (Ex : World → List Bool → Prop) (mt : Nat → Bool) (fx : Ch → Ch) (ga : Ch → Bool) (i : Nat) (l : List Ch) (ag : List Bool) (x : Ch) (w : World) (e : Ending) (w' : World) : Prop :=
  e = .returned (.bool (mt i)) ∧ IsSup w' p lv ev { s with l := if mt i then l.set i (fx x) else l } ∧ Ex w' (if mt i then ag.set i (ga x) else ag) ∧ Chg (fun k => FL p lv k ∨ G k) w w'
def StopPost (w : World) (p : Nat) (lv ev : Value) (s : SupM) (G : Nat → Prop) (Ex : World → List Bool → Prop) (mt : Nat → Bool) (fx : Ch → Ch) (ga : Ch → Bool) (ag0 : List Bool) (e : Ending) (w' : World) : Prop :=
  ∃ v l' ag', e = .returned v ∧ Own w' 43 eAM v (dA s.l mt 0) ∧ Fresh w v ∧ IsSup w' p lv ev { s with l := l' } ∧ Ex w' ag' ∧ PW s.l l' (stopF mt fx) ∧ PW ag0 ag' (agF s.l mt ga 0) ∧ Chg (fun k => FL p lv k ∨ G k) w w'
theorem agF_lt (l : List Ch) (mt : Nat → Bool) (ga : Ch → Bool) (j i : Nat) (b : Bool) (h : i < j) : agF l mt ga j i b = b := by unfold agF; rw [if_neg (by omega)]
theorem agF_skip (l : List Ch) (mt : Nat → Bool) (ga : Ch → Bool) (m : Nat) (h : m < l.length) (h2 : (l[m].runs && mt m) = false) : agF l mt ga m = agF l mt ga (m + 1) := by
  rw [agF_step l mt ga m h]
  funext i b
  by_cases e : i = m
  · rw [if_pos e, h2, e, agF_lt _ _ _ _ _ _ (Nat.lt_succ_self m)]; rfl
  · rw [if_neg e]

set_option maxHeartbeats 2000000 in
theorem stop_exit (w : World) (p : Nat) (lv ev : Value) (s : SupM) (b14 b4 b10 b15 : Nat) (G : Nat → Prop) (Ex : World → List Bool → Prop) (mt : Nat → Bool) (fx : Ch → Ch) (ga : Ch → Bool) (ag0 : List Bool)
    (hEx : ∀ (w w' : World) (ag : List Bool) (F : Nat → Prop), Ex w ag → Chg F w w' → (∀ k, F k → k < w.heap.size → ∃ cur T, w.heap[k]? = some (.cells cur T (0, 0)) ∧ (T = 43 ∨ T = 65)) → Ex w' ag)
    (hM : ∀ (i : Nat) (w : World) (l : List Ch) (ag : List Bool) (x : Ch), l[i]? = some x → l.length = s.l.length → IsSup w p lv ev { s with l := l } → Ex w ag →
      Calls Try.prog 31 #[.int .i64 i, .pointer (some ⟨b14, 0, none⟩), .pointer (some ⟨b4, 0, none⟩), .pointer (some ⟨b10, 0, none⟩), .pointer (some ⟨b15, 0, none⟩)] w (MeantPost p lv ev s G Ex mt fx ga i l ag x w))
    (hG : ∀ (w : World) (ag : List Bool) (k : Nat), Ex w ag → G k → ∃ cur, w.heap[k]? = some (.cells cur 4 (0, 0)))
    (hfx : ∀ x, (fx x).name = x.name ∧ (fx x).runs = x.runs)
    (hs : IsSup w p lv ev s) (hx0 : Ex w ag0) (hn : s.l.length ≤ 1000) :
    Calls Try.prog 28 #[.pointer (some ⟨p, 0, none⟩), .func (.func 31) #[] #[.pointer (some ⟨b14, 0, none⟩), .pointer (some ⟨b4, 0, none⟩), .pointer (some ⟨b10, 0, none⟩), .pointer (some ⟨b15, 0, none⟩)]] w (StopPost w p lv ev s G Ex mt fx ga ag0) := by
  obtain ⟨A, c, hlv, _, _, hA0, hA1⟩ := hs.l.shape
  subst hlv
  have hA := Kp.mk hA1
  have HM := Kp.mk hM
  have HE := Kp.mk hEx
  have HF := Kp.mk hfx
  have HG := Kp.mk hG
  clear hA1 hM hEx hfx hG
  have h3 : w.cell? ⟨p, 3, none⟩ = some (.slice A s.l.length c) := hs.c 3
  go_enter Try.func28, Try.ntmps28
  go_wp2
  go_loopw [5, 6] (fun v i wr => ∃ (j : Nat) (q : Int) (l' : List Ch) (ag : List Bool), j ≤ s.l.length ∧ i = .int .i64 q ∧ Kp (q = (j : Int) - 1) ∧ PW s.l l' (fun i c => if j ≤ i then stopF mt fx i c else c) ∧ PW ag0 ag (agF s.l mt ga j) ∧
    Own wr 43 eAM v (dA s.l mt j) ∧ Fresh w v ∧ IsSup wr p (.slice A s.l.length c) ev { s with l := l' } ∧ Ex wr ag ∧ Chg (fun k => FL p (.slice A s.l.length c) k ∨ G k) w wr) (fun _ i _ => (intOf i + 1).toNat)
  case atStart =>
    refine ⟨s.l.length, _, s.l, ag0, Nat.le_refl _, rfl, ⟨rfl⟩, ⟨rfl, fun i c hc => ?_⟩, ⟨rfl, fun i b hb => ?_⟩, ?_, Fresh.nil _ _ _, hs, hx0, Chg.refl _ _⟩
    · have := (List.getElem?_eq_some_iff.1 hc).1
      rw [if_neg (by omega)]; exact hc
    · unfold agF
      by_cases e : s.l.length ≤ i
      · rw [if_pos e, List.getElem?_eq_none_iff.2 e]; exact hb
      · rw [if_neg e]; exact hb
    · have : dA s.l mt s.l.length = [] := by unfold dA; rw [List.drop_eq_nil_of_le (by simp)]; rfl
      rw [this]; exact Own.nil _ _ _
  case round =>
    clear h3
    obtain ⟨j, q, l', ag, hj, rfl, hq, hpw, hpa, hown, hfr, hsr, hxr, hcr⟩ := hrel
    have hll := Kp.mk hpw.len
    cases j with
    | zero =>
      obtain rfl : q = -1 := by have := hq.out; omega
      go_wp2
      go_ret
      exact ⟨_, l', ag, rfl, hown, hfr, hsr, hxr, hpw.ext (fun i c _ => by rw [if_pos (Nat.zero_le _)]), hpa, hcr⟩
    | succ m =>
      obtain rfl : q = (m : Int) := by have := hq.out; omega
      clear hq
      have hlt : m < s.l.length := by omega
      cases A with
      | none => have := (hA0 rfl).1; rw [this] at hlt; simp at hlt
      | some a =>
        obtain ⟨g, rfl⟩ := hA.out a rfl
        have hlt' : m < l'.length := by rw [hll.out]; exact hlt
        have hx : l'[m] = s.l[m] := by
          have := hpw.at_ m _ (List.getElem?_eq_getElem hlt)
          rw [List.getElem?_eq_getElem hlt', if_neg (by omega)] at this
          simpa using this
        have p3 : wr.cell? ⟨p, 3, none⟩ = some (.slice (some ⟨g, 0, none⟩) s.l.length c) := hsr.c 3
        have q2 : wr.cell? ⟨g, m * 4 + 2, none⟩ = some (.bool s.l[m].runs) := by rw [← hx]; exact hsr.l.elem m 2 hlt' (by decide)
        have hd := dA_step s.l mt m hlt
        have hagf := agF_step s.l mt ga m hlt
        have hlk := dA_len s.l mt (m + 1)
        obtain ⟨x, hxx⟩ : ∃ x, x = s.l[m] := ⟨_, rfl⟩
        rw [← hxx] at q2 hd hagf
        have HX := Kp.mk hxx
        have HX2 := Kp.mk hx
        have HD := Kp.mk hd
        have HA := Kp.mk hagf
        clear hxx hx hd hagf
        cases hr : x.runs
        · rw [hr] at q2
          go_wp2
          go_roundw
          case rel =>
            refine ⟨m, _, l', ag, by omega, rfl, ⟨rfl⟩, hpw.ext fun i c hc => ?_, by rw [agF_skip s.l mt ga m hlt (by rw [← HX.out, hr]; rfl)]; exact hpa, by rw [HD.out, hr]; simpa using hown, hfr, hsr, hxr, hcr⟩
            by_cases e : i = m
            · subst e
              rw [List.getElem?_eq_getElem hlt, ← HX.out] at hc
              cases hc
              rw [if_neg (by omega), if_pos (Nat.le_refl _)]
              simp [stopF, hr]
            · by_cases e2 : m + 1 ≤ i
              · rw [if_pos e2, if_pos (by omega)]
              · rw [if_neg e2, if_neg (by omega)]
          case measure => simp only [intOf]; omega
        · rw [hr] at q2
          have hxm : l'[m]? = some x := by rw [List.getElem?_eq_getElem hlt', HX2.out, HX.out]
          have HC := HM.out m wr l' ag x hxm hll.out hsr hxr
          have HC' := Kp.mk HC
          clear HC
          go_wp2_with fail
          refine HC'.out.mono ?_
          rintro e w1 ⟨rfl, hs1, hx1, hc1⟩
          have hownN : Own w1 43 eAM u5 (dA s.l mt (m + 1)) := hown.frame hc1 fun g' hg' hF => by
            rcases hF with (rfl | h) | h
            · exact hown.ne hsr.blk (by decide) hg'
            · obtain ⟨cur, hcur⟩ := hsr.l.blk' h
              exact hown.ne hcur (by decide) hg'
            · obtain ⟨cur, hcur⟩ := HG.out _ _ _ hxr h
              exact hown.ne hcur (by decide) hg'
          have hcr1 := hcr.then hc1
          cases hm : mt m
          · rw [hm] at hs1 hx1
            simp only [Bool.false_eq_true, if_false] at hs1 hx1
            go_wp2
            go_roundw
            case rel =>
              refine ⟨m, _, l', ag, by omega, rfl, ⟨rfl⟩, hpw.ext fun i c hc => ?_, by rw [agF_skip s.l mt ga m hlt (by rw [← HX.out, hr, hm]; rfl)]; exact hpa, by rw [HD.out, hr, hm]; simpa using hownN, hfr, hs1, hx1, hcr1⟩
              by_cases e : i = m
              · subst e
                rw [List.getElem?_eq_getElem hlt, ← HX.out] at hc
                cases hc
                rw [if_neg (by omega), if_pos (Nat.le_refl _)]
                simp [stopF, hr, hm]
              · by_cases e2 : m + 1 ≤ i
                · rw [if_pos e2, if_pos (by omega)]
                · rw [if_neg e2, if_neg (by omega)]
            case measure => simp only [intOf]; omega
          · rw [hm] at hs1 hx1
            simp only [if_true] at hs1 hx1
            have hlt1 : m < (l'.set m (fx x)).length := by rw [List.length_set]; exact hlt'
            have hge : (l'.set m (fx x))[m] = fx x := by simp
            obtain ⟨hnm, hrn⟩ := HF.out x
            have hll1 : (l'.set m (fx x)).length = s.l.length := by rw [List.length_set]; exact hll.out
            have hW := hs1.setRuns hll1.symm m hlt1 (fx x) hge.symm false
            have r3 : w1.cell? ⟨p, 3, none⟩ = some (.slice (some ⟨g, 0, none⟩) s.l.length c) := hs1.c 3
            have r0 : w1.cell? ⟨g, m * 4, none⟩ = some (.string x.name) := by
              have := hs1.l.elem m 0 hlt1 (by decide)
              rw [hge] at this
              rw [← hnm]; exact this
            have r2 : w1.cell? ⟨g, m * 4 + 2, none⟩ = some (.bool x.runs) := by
              have := hs1.l.elem m 2 hlt1 (by decide)
              rw [hge] at this
              rw [← hrn]; exact this
            have rf : w1.frozen? ⟨g, m * 4 + 2, none⟩ = false := hs1.l.frozen _
            have hpg : p ≠ g := fun e => hs1.lne (by rw [e]; rfl)
            obtain ⟨cur, hcur⟩ := hs1.l.blk
            have hownW : Own (w1.setCell ⟨g, m * 4 + 2, none⟩ (.bool false)) 43 eAM u5 (dA s.l mt (m + 1)) := hownN.set_ne (hownN.ne hcur (by decide)) _
            have hxW : Ex (w1.setCell ⟨g, m * 4 + 2, none⟩ (.bool false)) (ag.set m (ga x)) := HE.out w1 _ _ (fun k => k = g) hx1 (chg_cell _ _ _ _) (by rintro k rfl _; exact ⟨cur, 65, hcur, .inr rfl⟩)
            clear hnm hrn hge hcur
            go_wp2_with fail
            refine (acts_any _ false (some ⟨w1.heap.size, 0, none⟩) 1 [x.name] (src_new _ eStr 9 _ x.name rfl (by simp)) (by simp)).mono ?_
            rintro e w3 ⟨v3, rfl, ho3, hf3, hb3⟩
            have hs3 := (hW.below ((Below.refl _ _).alloc (Nat.le_refl _) (.cells #[.string x.name] 9))).below hb3
            have hown3 := (hownW.alloc (.cells #[.string x.name] 9)).below hb3
            have hx3 : Ex w3 (ag.set m (ga x)) := HE.out _ _ _ NoF (HE.out _ _ _ NoF hxW ((Chg.refl _ _).alloc (.cells #[.string x.name] 9)) (fun _ h => h.elim)) (Chg.of_below hb3 _) (fun _ h => h.elim)
            have hc3 : Chg (fun k => FL p (.slice (some ⟨g, 0, none⟩) s.l.length c) k ∨ G k) w w3 := (((hcr1.set (p := ⟨g, m * 4 + 2, none⟩) (.inl (.inl (.inr rfl))) (.bool false)).alloc _)).then (Chg.of_below hb3 _)
            obtain ⟨A3, c3, hv3, _⟩ := ho3.shape
            subst hv3
            go_wp2_with (at_builtin; refine app_ev T28 rfl _ _ rfl hown3 rfl (ho3.src rfl) rfl rfl (by simp only [List.length_map, List.length_cons, List.length_nil] at hlk ⊢; omega) (by simp only [List.length_map, List.length_cons, List.length_nil] at hlk ⊢; omega) ?_; intro A' n' c' w4 a0 a1 a2 a3)
            go_roundw
            case rel =>
              refine ⟨m, _, _, ag.set m (ga x), by omega, rfl, ⟨rfl⟩, ((hpw.set m hlt (fx x)).set m hlt (setR false (fx x))).ext fun i c hc => ?_, ?_, by rw [HD.out, hr, hm]; exact a1, hfr.app hc3.size a3, hs3.keep hown3 a2,
                HE.out _ _ _ _ hx3 a2 (fun k hk _ => by obtain ⟨cur, hcur⟩ := hown3.blk' hk; exact ⟨cur, 43, hcur, .inl rfl⟩), hc3.fresh hfr a2⟩
              · by_cases e : i = m
                · subst e
                  rw [List.getElem?_eq_getElem hlt, ← HX.out] at hc
                  cases hc
                  rw [if_pos rfl, if_pos (Nat.le_refl _)]
                  simp [stopF, hr, hm]
                · rw [if_neg e, if_neg e]
                  by_cases e2 : m + 1 ≤ i
                  · rw [if_pos e2, if_pos (by omega)]
                  · rw [if_neg e2, if_neg (by omega)]
              · by_cases hm0 : m < ag0.length
                · refine (hpa.set m hm0 (ga x)).ext fun i b hb => ?_
                  rw [HA.out, hr, hm]
                  by_cases e : i = m <;> simp [e]
                · have hag : ag.set m (ga x) = ag := List.set_eq_of_length_le (by rw [hpa.len]; omega)
                  rw [hag]
                  refine hpa.ext fun i b hb => ?_
                  have := (List.getElem?_eq_some_iff.1 hb).1
                  rw [HA.out]
                  exact (if_neg (by omega : ¬ i = m)).symm
            case measure => simp only [intOf]; omega

set_option maxHeartbeats 2000000 in
theorem stop_all (w : World) (p : Nat) (lv ev : Value) (s : SupM) (G : Nat → Prop) (Ex : World → List Bool → Prop) (mt : Nat → Bool) (fx : Ch → Ch) (ga : Ch → Bool) (ag0 : List Bool)
    (hEx : ∀ (w w' : World) (ag : List Bool) (F : Nat → Prop), Ex w ag → Chg F w w' → (∀ k, F k → k < w.heap.size → ∃ cur T, w.heap[k]? = some (.cells cur T (0, 0)) ∧ (T = 43 ∨ T = 65)) → Ex w' ag)
    (hM : ∀ (i : Nat) (w : World) (l : List Ch) (ag : List Bool) (x : Ch), l[i]? = some x → l.length = s.l.length → IsSup w p lv ev { s with l := l } → Ex w ag →
      Calls Try.prog 29 #[.int .i64 i] w (MeantPost p lv ev s G Ex mt fx ga i l ag x w))
    (hG : ∀ (w : World) (ag : List Bool) (k : Nat), Ex w ag → G k → ∃ cur, w.heap[k]? = some (.cells cur 4 (0, 0)))
    (hfx : ∀ x, (fx x).name = x.name ∧ (fx x).runs = x.runs)
    (hs : IsSup w p lv ev s) (hx0 : Ex w ag0) (hn : s.l.length ≤ 1000) :
    Calls Try.prog 28 #[.pointer (some ⟨p, 0, none⟩), .func (.func 29) #[] #[]] w (StopPost w p lv ev s G Ex mt fx ga ag0) := by
  obtain ⟨A, c, hlv, _, _, hA0, hA1⟩ := hs.l.shape
  subst hlv
  have hA := Kp.mk hA1
  have HM := Kp.mk hM
  have HE := Kp.mk hEx
  have HF := Kp.mk hfx
  have HG := Kp.mk hG
  clear hA1 hM hEx hfx hG
  have h3 : w.cell? ⟨p, 3, none⟩ = some (.slice A s.l.length c) := hs.c 3
  go_enter Try.func28, Try.ntmps28
  go_wp2
  go_loopw [5, 6] (fun v i wr => ∃ (j : Nat) (q : Int) (l' : List Ch) (ag : List Bool), j ≤ s.l.length ∧ i = .int .i64 q ∧ Kp (q = (j : Int) - 1) ∧ PW s.l l' (fun i c => if j ≤ i then stopF mt fx i c else c) ∧ PW ag0 ag (agF s.l mt ga j) ∧
    Own wr 43 eAM v (dA s.l mt j) ∧ Fresh w v ∧ IsSup wr p (.slice A s.l.length c) ev { s with l := l' } ∧ Ex wr ag ∧ Chg (fun k => FL p (.slice A s.l.length c) k ∨ G k) w wr) (fun _ i _ => (intOf i + 1).toNat)
  case atStart =>
    refine ⟨s.l.length, _, s.l, ag0, Nat.le_refl _, rfl, ⟨rfl⟩, ⟨rfl, fun i c hc => ?_⟩, ⟨rfl, fun i b hb => ?_⟩, ?_, Fresh.nil _ _ _, hs, hx0, Chg.refl _ _⟩
    · have := (List.getElem?_eq_some_iff.1 hc).1
      rw [if_neg (by omega)]; exact hc
    · unfold agF
      by_cases e : s.l.length ≤ i
      · rw [if_pos e, List.getElem?_eq_none_iff.2 e]; exact hb
      · rw [if_neg e]; exact hb
    · have : dA s.l mt s.l.length = [] := by unfold dA; rw [List.drop_eq_nil_of_le (by simp)]; rfl
      rw [this]; exact Own.nil _ _ _
  case round =>
    clear h3
    obtain ⟨j, q, l', ag, hj, rfl, hq, hpw, hpa, hown, hfr, hsr, hxr, hcr⟩ := hrel
    have hll := Kp.mk hpw.len
    cases j with
    | zero =>
      obtain rfl : q = -1 := by have := hq.out; omega
      go_wp2
      go_ret
      exact ⟨_, l', ag, rfl, hown, hfr, hsr, hxr, hpw.ext (fun i c _ => by rw [if_pos (Nat.zero_le _)]), hpa, hcr⟩
    | succ m =>
      obtain rfl : q = (m : Int) := by have := hq.out; omega
      clear hq
      have hlt : m < s.l.length := by omega
      cases A with
      | none => have := (hA0 rfl).1; rw [this] at hlt; simp at hlt
      | some a =>
        obtain ⟨g, rfl⟩ := hA.out a rfl
        have hlt' : m < l'.length := by rw [hll.out]; exact hlt
        have hx : l'[m] = s.l[m] := by
          have := hpw.at_ m _ (List.getElem?_eq_getElem hlt)
          rw [List.getElem?_eq_getElem hlt', if_neg (by omega)] at this
          simpa using this
        have p3 : wr.cell? ⟨p, 3, none⟩ = some (.slice (some ⟨g, 0, none⟩) s.l.length c) := hsr.c 3
        have q2 : wr.cell? ⟨g, m * 4 + 2, none⟩ = some (.bool s.l[m].runs) := by rw [← hx]; exact hsr.l.elem m 2 hlt' (by decide)
        have hd := dA_step s.l mt m hlt
        have hagf := agF_step s.l mt ga m hlt
        have hlk := dA_len s.l mt (m + 1)
        obtain ⟨x, hxx⟩ : ∃ x, x = s.l[m] := ⟨_, rfl⟩
        rw [← hxx] at q2 hd hagf
        have HX := Kp.mk hxx
        have HX2 := Kp.mk hx
        have HD := Kp.mk hd
        have HA := Kp.mk hagf
        clear hxx hx hd hagf
        cases hr : x.runs
        · rw [hr] at q2
          go_wp2
          go_roundw
          case rel =>
            refine ⟨m, _, l', ag, by omega, rfl, ⟨rfl⟩, hpw.ext fun i c hc => ?_, by rw [agF_skip s.l mt ga m hlt (by rw [← HX.out, hr]; rfl)]; exact hpa, by rw [HD.out, hr]; simpa using hown, hfr, hsr, hxr, hcr⟩
            by_cases e : i = m
            · subst e
              rw [List.getElem?_eq_getElem hlt, ← HX.out] at hc
              cases hc
              rw [if_neg (by omega), if_pos (Nat.le_refl _)]
              simp [stopF, hr]
            · by_cases e2 : m + 1 ≤ i
              · rw [if_pos e2, if_pos (by omega)]
              · rw [if_neg e2, if_neg (by omega)]
          case measure => simp only [intOf]; omega
        · rw [hr] at q2
          have hxm : l'[m]? = some x := by rw [List.getElem?_eq_getElem hlt', HX2.out, HX.out]
          have HC := HM.out m wr l' ag x hxm hll.out hsr hxr
          have HC' := Kp.mk HC
          clear HC
          go_wp2_with fail
          refine HC'.out.mono ?_
          rintro e w1 ⟨rfl, hs1, hx1, hc1⟩
          have hownN : Own w1 43 eAM u5 (dA s.l mt (m + 1)) := hown.frame hc1 fun g' hg' hF => by
            rcases hF with (rfl | h) | h
            · exact hown.ne hsr.blk (by decide) hg'
            · obtain ⟨cur, hcur⟩ := hsr.l.blk' h
              exact hown.ne hcur (by decide) hg'
            · obtain ⟨cur, hcur⟩ := HG.out _ _ _ hxr h
              exact hown.ne hcur (by decide) hg'
          have hcr1 := hcr.then hc1
          cases hm : mt m
          · rw [hm] at hs1 hx1
            simp only [Bool.false_eq_true, if_false] at hs1 hx1
            go_wp2
            go_roundw
            case rel =>
              refine ⟨m, _, l', ag, by omega, rfl, ⟨rfl⟩, hpw.ext fun i c hc => ?_, by rw [agF_skip s.l mt ga m hlt (by rw [← HX.out, hr, hm]; rfl)]; exact hpa, by rw [HD.out, hr, hm]; simpa using hownN, hfr, hs1, hx1, hcr1⟩
              by_cases e : i = m
              · subst e
                rw [List.getElem?_eq_getElem hlt, ← HX.out] at hc
                cases hc
                rw [if_neg (by omega), if_pos (Nat.le_refl _)]
                simp [stopF, hr, hm]
              · by_cases e2 : m + 1 ≤ i
                · rw [if_pos e2, if_pos (by omega)]
                · rw [if_neg e2, if_neg (by omega)]
            case measure => simp only [intOf]; omega
          · rw [hm] at hs1 hx1
            simp only [if_true] at hs1 hx1
            have hlt1 : m < (l'.set m (fx x)).length := by rw [List.length_set]; exact hlt'
            have hge : (l'.set m (fx x))[m] = fx x := by simp
            obtain ⟨hnm, hrn⟩ := HF.out x
            have hll1 : (l'.set m (fx x)).length = s.l.length := by rw [List.length_set]; exact hll.out
            have hW := hs1.setRuns hll1.symm m hlt1 (fx x) hge.symm false
            have r3 : w1.cell? ⟨p, 3, none⟩ = some (.slice (some ⟨g, 0, none⟩) s.l.length c) := hs1.c 3
            have r0 : w1.cell? ⟨g, m * 4, none⟩ = some (.string x.name) := by
              have := hs1.l.elem m 0 hlt1 (by decide)
              rw [hge] at this
              rw [← hnm]; exact this
            have r2 : w1.cell? ⟨g, m * 4 + 2, none⟩ = some (.bool x.runs) := by
              have := hs1.l.elem m 2 hlt1 (by decide)
              rw [hge] at this
              rw [← hrn]; exact this
            have rf : w1.frozen? ⟨g, m * 4 + 2, none⟩ = false := hs1.l.frozen _
            have hpg : p ≠ g := fun e => hs1.lne (by rw [e]; rfl)
            obtain ⟨cur, hcur⟩ := hs1.l.blk
            have hownW : Own (w1.setCell ⟨g, m * 4 + 2, none⟩ (.bool false)) 43 eAM u5 (dA s.l mt (m + 1)) := hownN.set_ne (hownN.ne hcur (by decide)) _
            have hxW : Ex (w1.setCell ⟨g, m * 4 + 2, none⟩ (.bool false)) (ag.set m (ga x)) := HE.out w1 _ _ (fun k => k = g) hx1 (chg_cell _ _ _ _) (by rintro k rfl _; exact ⟨cur, 65, hcur, .inr rfl⟩)
            clear hnm hrn hge hcur
            go_wp2_with fail
            refine (acts_any _ false (some ⟨w1.heap.size, 0, none⟩) 1 [x.name] (src_new _ eStr 9 _ x.name rfl (by simp)) (by simp)).mono ?_
            rintro e w3 ⟨v3, rfl, ho3, hf3, hb3⟩
            have hs3 := (hW.below ((Below.refl _ _).alloc (Nat.le_refl _) (.cells #[.string x.name] 9))).below hb3
            have hown3 := (hownW.alloc (.cells #[.string x.name] 9)).below hb3
            have hx3 : Ex w3 (ag.set m (ga x)) := HE.out _ _ _ NoF (HE.out _ _ _ NoF hxW ((Chg.refl _ _).alloc (.cells #[.string x.name] 9)) (fun _ h => h.elim)) (Chg.of_below hb3 _) (fun _ h => h.elim)
            have hc3 : Chg (fun k => FL p (.slice (some ⟨g, 0, none⟩) s.l.length c) k ∨ G k) w w3 := (((hcr1.set (p := ⟨g, m * 4 + 2, none⟩) (.inl (.inl (.inr rfl))) (.bool false)).alloc _)).then (Chg.of_below hb3 _)
            obtain ⟨A3, c3, hv3, _⟩ := ho3.shape
            subst hv3
            go_wp2_with (at_builtin; refine app_ev T28 rfl _ _ rfl hown3 rfl (ho3.src rfl) rfl rfl (by simp only [List.length_map, List.length_cons, List.length_nil] at hlk ⊢; omega) (by simp only [List.length_map, List.length_cons, List.length_nil] at hlk ⊢; omega) ?_; intro A' n' c' w4 a0 a1 a2 a3)
            go_roundw
            case rel =>
              refine ⟨m, _, _, ag.set m (ga x), by omega, rfl, ⟨rfl⟩, ((hpw.set m hlt (fx x)).set m hlt (setR false (fx x))).ext fun i c hc => ?_, ?_, by rw [HD.out, hr, hm]; exact a1, hfr.app hc3.size a3, hs3.keep hown3 a2,
                HE.out _ _ _ _ hx3 a2 (fun k hk _ => by obtain ⟨cur, hcur⟩ := hown3.blk' hk; exact ⟨cur, 43, hcur, .inl rfl⟩), hc3.fresh hfr a2⟩
              · by_cases e : i = m
                · subst e
                  rw [List.getElem?_eq_getElem hlt, ← HX.out] at hc
                  cases hc
                  rw [if_pos rfl, if_pos (Nat.le_refl _)]
                  simp [stopF, hr, hm]
                · rw [if_neg e, if_neg e]
                  by_cases e2 : m + 1 ≤ i
                  · rw [if_pos e2, if_pos (by omega)]
                  · rw [if_neg e2, if_neg (by omega)]
              · by_cases hm0 : m < ag0.length
                · refine (hpa.set m hm0 (ga x)).ext fun i b hb => ?_
                  rw [HA.out, hr, hm]
                  by_cases e : i = m <;> simp [e]
                · have hag : ag.set m (ga x) = ag := List.set_eq_of_length_le (by rw [hpa.len]; omega)
                  rw [hag]
                  refine hpa.ext fun i b hb => ?_
                  have := (List.getElem?_eq_some_iff.1 hb).1
                  rw [HA.out]
                  exact (if_neg (by omega : ¬ i = m)).symm
            case measure => simp only [intOf]; omega

set_option maxHeartbeats 400000 in
theorem stop_nil (w : World) : Calls Try.prog 23 #[.pointer none] w fun e w' => e = .returned (.tuple #[.slice none 0 0, .int .i64 2]) ∧ w = w' := by
  go_enter Try.func23, Try.ntmps23
  go_wp2
  go_ret2
  exact ⟨rfl, rfl⟩
set_option maxHeartbeats 400000 in
theorem stop_no (w : World) (p : Nat) (lv ev : Value) (s : SupM) (hs : IsSup w p lv ev s) (h : s.sd = false ∨ s.ov = true) :
    Calls Try.prog 23 #[.pointer (some ⟨p, 0, none⟩)] w fun e w' => e = .returned (.tuple #[.slice none 0 0, .int .i64 250]) ∧ w = w' := by
  have h4 : w.cell? ⟨p, 4, none⟩ = some (.bool s.sd) := hs.c 4
  have h5 : w.cell? ⟨p, 5, none⟩ = some (.bool s.ov) := hs.c 5
  cases hd : s.sd
  · rw [hd] at h4
    go_enter Try.func23, Try.ntmps23
    go_wp2
    go_ret2
    exact ⟨rfl, rfl⟩
  · have ho : s.ov = true := by rcases h with h | h; rw [hd] at h; cases h; exact h
    rw [hd] at h4
    rw [ho] at h5
    go_enter Try.func23, Try.ntmps23
    go_wp2
    go_ret2
    exact ⟨rfl, rfl⟩

/-- All that runs is stopped. -/
theorem stopall_any (w : World) (p : Nat) (lv ev : Value) (s : SupM) (hs : IsSup w p lv ev s) (hn : s.l.length ≤ 1000) :
    Calls Try.prog 28 #[.pointer (some ⟨p, 0, none⟩), .func (.func 29) #[] #[]] w fun e w' =>
      ∃ v, e = .returned v ∧ Own w' 43 eAM v (dA s.l (fun _ => true) 0) ∧ Fresh w v ∧ IsSup w' p lv ev { s with l := s.l.map (setR false) } ∧ Chg (FL p lv) w w' := by
  refine (stop_all w p lv ev s NoF (fun _ _ => True) (fun _ => true) id (fun _ => true) [] (fun _ _ _ _ _ _ _ => trivial) ?_ (fun _ _ _ _ h => h.elim) (fun _ => ⟨rfl, rfl⟩) hs trivial hn).mono ?_
  · intro i w l ag x hx hl hs _
    refine (all_any w _).mono ?_
    rintro e w' ⟨rfl, rfl⟩
    have e1 : l.set i (id x) = l := by
      apply List.ext_getElem?
      intro j
      rw [List.getElem?_set]
      by_cases h : i = j
      · subst h
        have := (List.getElem?_eq_some_iff.1 hx).1
        rw [if_pos rfl, if_pos this]; exact hx.symm
      · rw [if_neg h]
    exact ⟨rfl, by simp only [if_true]; rw [e1]; exact hs, trivial, Chg.refl _ _⟩
  · rintro e w' ⟨v, l', ag', rfl, h1, h2, h3, _, h5, _, h7⟩
    have e1 : l' = s.l.map (setR false) := by
      rw [h5.eq]; apply List.ext_getElem?; intro i; simp only [List.getElem?_mapIdx, List.getElem?_map]
      cases s.l[i]? with
      | none => rfl
      | some c => cases hr : c.runs <;> simp [stopF, setR, hr]; cases c; simp_all
    rw [e1] at h3
    exact ⟨v, rfl, h1, h2, h3, h7.mono fun n _ h => by rcases h with h | h; exact h; exact h.elim⟩
set_option maxHeartbeats 400000 in
theorem stop_yes (w : World) (p : Nat) (lv ev : Value) (s : SupM) (hs : IsSup w p lv ev s) (hn : s.l.length ≤ 1000) (hd : s.sd = true) (ho : s.ov = false) :
    Calls Try.prog 23 #[.pointer (some ⟨p, 0, none⟩)] w fun e w' =>
      ∃ v, e = .returned (.tuple #[v, .int .i64 0]) ∧ Own w' 43 eAM v (dA s.l (fun _ => true) 0) ∧ Fresh w v ∧ IsSup w' p lv ev { s with ov := true, l := s.l.map (setR false) } ∧ Chg (FL p lv) w w' := by
  have hs1 : IsSup (w.setCell ⟨p, 5, none⟩ (.bool true)) p lv ev { s with ov := true } := hs.setF 5 rfl rfl rfl
  have hc1 : Chg (FL p lv) w (w.setCell ⟨p, 5, none⟩ (.bool true)) := (Chg.refl _ w).set (p := ⟨p, 5, none⟩) (.inl (.inl rfl)) _
  have h4 : w.cell? ⟨p, 4, none⟩ = some (.bool s.sd) := hs.c 4
  have h5 : w.cell? ⟨p, 5, none⟩ = some (.bool s.ov) := hs.c 5
  have f5 : w.frozen? ⟨p, 5, none⟩ = false := hs.f 5
  rw [hd] at h4
  rw [ho] at h5
  go_enter Try.func23, Try.ntmps23
  go_wp2_with fail
  refine (stopall_any _ p lv ev _ hs1 hn).mono ?_
  rintro e w1 ⟨v, rfl, k1, k2, k3, k4⟩
  go_wp2
  go_ret2
  exact ⟨v, rfl, k1, k2.up hc1.size, k3, hc1.then k4⟩

end Go.Proofs.Ytiedfckgkjcheaa
