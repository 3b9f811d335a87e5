/- What Cancel and All of the reference's wheel answer; no condition but bounds. -/
import Derived.Test.YtobgabjoehjpcaaSm
namespace Go.Proofs.Ytobgabjoehjpcaa
open Go.RowKit

def RCancelPost (w : World) (q : Nat) (lv : Value) (l : List Ent) (ref : Int) (e : Ending) (w' : World) : Prop :=
  ∃ d, e = .returned (.tuple #[.int .i64 d, .int .i64 (whenE l ref)]) ∧ ((whenE l ref = 5 ∧ d = 0 ∧ Below w.heap.size w w') ∨
    (whenE l ref = 0 ∧ ∃ i, i < l.length ∧ (gt l i).ref = ref ∧ d = (gt l i).dl ∧ ∃ lv', IsRf w' q lv' (l.take i ++ l.drop (i + 1)) ∧ Fresh w lv' ∧ Chg (FW q lv) w w'))
set_option maxRecDepth 100000 in
set_option maxHeartbeats 1000000 in
theorem rcancel_any (w : World) (q : Nat) (lv : Value) (l : List Ent) (ref : Int) (h : IsRf w q lv l) (hn : l.length ≤ 900000) :
    Calls Try.prog 34 #[.pointer (some ⟨q, 0, none⟩), .int .i64 ref] w (RCancelPost w q lv l ref) := by
  have HH := Kp.mk h
  have HW := Kp.mk (rwhen_any w q lv l ref h (by omega))
  clear h
  go_enter Try.func34, Try.ntmps34
  go_wp2_with fail
  refine HW.out.mono ?_
  rintro e w1 ⟨d, rfl, hd, hb1⟩
  have H1 := Kp.mk (HH.out.below hb1)
  have HB1 := Kp.mk hb1
  rcases hd with ⟨he, rfl⟩ | ⟨he, i, hi, hri, hno, rfl⟩
  · have HE := Kp.mk he
    rw [he]
    clear he hb1 HW
    go_wp2
    go_ret2
    exact ⟨0, by rw [HE.out]; rfl, .inl ⟨HE.out, rfl, HB1.out⟩⟩
  · have HE := Kp.mk he
    rw [he]
    have HI := Kp.mk (And.intro hi (And.intro hri hno))
    obtain ⟨dl, hdl⟩ : ∃ dl, dl = (gt l i).dl := ⟨_, rfl⟩
    rw [← hdl]
    have HDL := Kp.mk hdl
    have HF := Kp.mk (find_any w1 q lv l ref H1.out (by omega))
    clear he hb1 HW hi hri hno hdl
    go_wp2_with fail
    refine HF.out.mono ?_
    rintro e5 w5 ⟨k, hk, rfl, hb5⟩
    obtain rfl : k = (i : Int) := by
      rcases hk with ⟨j, hj, rfl, hrj, hnj⟩ | ⟨rfl, hnj⟩
      · rw [first_eq HI.out.2.1 HI.out.2.2 hrj hnj]
      · exact absurd HI.out.2.1 (hnj i HI.out.1)
    have HO := Kp.mk (out_any w5 q lv l i (H1.out.below hb5) HI.out.1 (by omega))
    have C5 : Kp (Chg (FW q lv) w w5) := ⟨(Chg.of_below HB1.out (FW q lv)).then (Chg.of_below hb5 _)⟩
    clear hk hb5 HF
    go_wp2_with fail
    refine HO.out.mono ?_
    rintro e6 w6 ⟨⟨v, rfl⟩, lv', h6, hf6, hc6⟩
    have H6 := Kp.mk h6
    have F6 : Kp (Fresh w lv') := ⟨hf6.up C5.out.size⟩
    have C6 : Kp (Chg (FW q lv) w w6) := ⟨C5.out.then hc6⟩
    clear h6 hf6 hc6 HO
    go_wp2
    go_ret2
    exact ⟨dl, by rw [HE.out]; rfl, .inr ⟨HE.out, i, HI.out.1, HI.out.2.1, HDL.out, lv', H6.out, F6.out, C6.out⟩⟩
/-! ### All -/
theorem Own.setT {w : World} {g n c : Nat} {l : List Ent} (h : Own w 66 eTm (.slice (some ⟨g, 0, none⟩) n c) l) (hl : n = l.length) (i : Nat) (hi : i < l.length) (b : Ent) :
    Own ((w.setCell ⟨g, i * 2, none⟩ (.int .i64 b.ref)).setCell ⟨g, i * 2 + 1, none⟩ (.int .i64 b.dl)) 66 eTm (.slice (some ⟨g, 0, none⟩) n c) (l.set i b) := by
  have h1 := h.set hl i 0 ⟨b.ref, l[i].dl, l[i].tn⟩ (.int .i64 b.ref) hi (by decide) rfl
  have h2 := h1.set (by simpa using hl) i 1 b (.int .i64 b.dl) (by simpa using hi) (by decide) (by simp [eTm])
  rw [List.set_set] at h2
  exact h2
theorem Own.tm {w : World} {g n c : Nat} {l : List Ent} (h : Own w 66 eTm (.slice (some ⟨g, 0, none⟩) n c) l) (i : Nat) (hi : i < l.length) : w.cell? ⟨g, i * 2, none⟩ = some (.int .i64 (gt l i).ref) ∧ w.cell? ⟨g, i * 2 + 1, none⟩ = some (.int .i64 (gt l i).dl) := by
  have e : gt l i = l[i] := by unfold gt; rw [List.getD_eq_getElem?_getD, List.getElem?_eq_getElem hi]; rfl
  rw [e]
  exact ⟨h.elem i 0 hi (by decide), h.elem i 1 hi (by decide)⟩
theorem gt_get (l : List Ent) (k : Nat) (hk : k < l.length) : gt l k = l[k] := by unfold gt; rw [List.getD_eq_getElem?_getD, List.getElem?_eq_getElem hk]; rfl
/-- A place is made at k. -/
structure Hole (O S : List Ent) (t : Ent) (k : Nat) : Prop where
  le : k ≤ O.length
  len : S.length = O.length + 1
  low : S.take k = O.take k
  high : S.drop (k + 1) = O.drop k
  lt : ∀ j, k ≤ j → j < O.length → t.dl < (gt O j).dl
theorem Hole.start (O : List Ent) (t : Ent) : Hole O (O ++ [t]) t O.length := ⟨Nat.le_refl _, by simp, by simp, by simp, fun j h1 h2 => by omega⟩
theorem Hole.at {O S : List Ent} {t : Ent} {m : Nat} (h : Hole O S t (m + 1)) : gt S m = gt O m := by
  have h1 := h.low
  have h2 := h.le
  have h3 := h.len
  rw [gt_get S m (by omega), gt_get O m (by omega)]
  have : (S.take (m + 1))[m]? = (O.take (m + 1))[m]? := by rw [h1]
  rw [List.getElem?_take, List.getElem?_take, if_pos (by omega), if_pos (by omega), List.getElem?_eq_getElem (by omega), List.getElem?_eq_getElem (by omega)] at this
  exact Option.some.inj this
theorem Hole.move {O S : List Ent} {t : Ent} {m : Nat} (h : Hole O S t (m + 1)) (ht : t.dl < (gt O m).dl) : Hole O (S.set (m + 1) (gt O m)) t m := by
  have h2 := h.le
  have h3 := h.len
  refine ⟨by omega, by simpa using h3, ?_, ?_, fun j h4 h5 => ?_⟩
  · rw [List.take_set_of_le (by omega)]
    have := congrArg (List.take m) h.low
    rwa [List.take_take, List.take_take, Nat.min_eq_left (by omega)] at this
  · apply List.ext_getElem?
    intro j
    rw [List.getElem?_drop, List.getElem?_drop, List.getElem?_set]
    by_cases hj : j = 0
    · subst hj
      rw [if_pos rfl, if_pos (by omega), Nat.add_zero, List.getElem?_eq_getElem (by omega), gt_get O m (by omega)]
    · rw [if_neg (by omega)]
      have := congrArg (·[j - 1]?) h.high
      simp only [List.getElem?_drop] at this
      rw [show m + 1 + j = m + 1 + 1 + (j - 1) by omega, this]
      congr 1
      omega
  · by_cases e : j = m
    · subst e; exact ht
    · exact h.lt j (by omega) h5
theorem Hole.fill {O S : List Ent} {t : Ent} {k : Nat} (h : Hole O S t k) : S.set k t = O.take k ++ t :: O.drop k := by
  have h2 := h.le
  have h3 := h.len
  rw [← h.low, ← h.high]
  apply List.ext_getElem?
  intro j
  rw [List.getElem?_set]
  by_cases e : k = j
  · subst e
    rw [if_pos rfl, if_pos (by omega), List.getElem?_append_right (by rw [List.length_take]; omega), List.length_take, Nat.min_eq_left (by omega), Nat.sub_self]
    rfl
  · rw [if_neg e]
    by_cases hj : j < k
    · rw [List.getElem?_append_left (by rw [List.length_take]; omega), List.getElem?_take, if_pos hj]
    · rw [List.getElem?_append_right (by rw [List.length_take]; omega), List.length_take, Nat.min_eq_left (by omega)]
      obtain ⟨d, hd⟩ : ∃ d, j - k = d + 1 := ⟨j - k - 1, by omega⟩
      rw [hd, List.getElem?_cons_succ, List.getElem?_drop]
      congr 1
      omega
/-- Put in where it belongs. -/
theorem ins_sorted {O ts : List Ent} {t : Ent} {k : Nat} (hp : O.Perm ts) (hs : O.Pairwise ltE) (hk : k ≤ O.length) (hhi : ∀ j, k ≤ j → j < O.length → t.dl < (gt O j).dl) (hlo : k = 0 ∨ (gt O (k - 1)).dl ≤ t.dl) (htn : ∀ e ∈ ts, e.tn < t.tn) :
    (O.take k ++ t :: O.drop k).Perm (ts ++ [t]) ∧ (O.take k ++ t :: O.drop k).Pairwise ltE := by
  constructor
  · refine List.perm_middle.trans ?_
    rw [List.take_append_drop]
    exact (List.Perm.cons t hp).trans (List.perm_append_comm (l₁ := [t]) (l₂ := ts))
  · have hO := hs
    rw [← List.take_append_drop k O, List.pairwise_append] at hO
    rw [List.pairwise_append]
    have low : ∀ a ∈ O.take k, ltE a t := fun a ha => by
      obtain ⟨j, hj, rfl⟩ := List.mem_iff_getElem.1 ha
      rw [List.length_take] at hj
      have hm : O[j] ∈ ts := hp.mem_iff.1 (List.getElem_mem _)
      rw [List.getElem_take]
      have h1 := htn _ hm
      rcases hlo with h | h
      · omega
      · have h2 : O[j].dl ≤ t.dl := by
          by_cases e : j = k - 1
          · subst e; rw [gt_get O (k - 1) (by omega)] at h; exact h
          · have h3 := List.pairwise_iff_getElem.1 hs j (k - 1) (by omega) (by omega) (by omega)
            rw [gt_get O (k - 1) (by omega)] at h
            unfold ltE at h3
            omega
        unfold ltE
        omega
    have high : ∀ b ∈ O.drop k, ltE t b := fun b hb => by
      obtain ⟨j, hj, rfl⟩ := List.mem_iff_getElem.1 hb
      rw [List.length_drop] at hj
      rw [List.getElem_drop]
      have h1 := hhi (k + j) (by omega) (by omega)
      rw [gt_get O (k + j) (by omega)] at h1
      exact .inl h1
    refine ⟨hO.1, List.pairwise_cons.2 ⟨high, hO.2.1⟩, fun a ha b hb => ?_⟩
    rcases List.mem_cons.1 hb with rfl | hb
    · exact low a ha
    · exact hO.2.2 a ha b hb
def RAllPost (w : World) (ts : List Ent) (e : Ending) (w' : World) : Prop := ∃ A c R, e = .returned (.slice A ts.length c) ∧ R.length = ts.length ∧ Own w' 66 eTm (.slice A ts.length c) R ∧ Fresh w (.slice A ts.length c) ∧ Below w.heap.size w w' ∧ R.Perm ts ∧ R.Pairwise ltE
set_option maxRecDepth 100000 in
set_option maxHeartbeats 4000000 in
theorem rall_any (w : World) (q : Nat) (lv : Value) (ts : List Ent) (h : IsRf w q lv ts) (hn : ts.length ≤ 100000) (hsrt : ts.Pairwise (fun a b => a.tn < b.tn)) :
    Calls Try.prog 21 #[.pointer (some ⟨q, 0, none⟩)] w (RAllPost w ts) := by
  obtain ⟨AL, cL, hv, q0⟩ := h.sh
  have ho := h.own
  rw [hv] at ho
  have hs := Kp.mk (ho.src rfl)
  have HSRT := Kp.mk hsrt
  clear h ho hv hsrt
  go_enter Try.func21, Try.ntmps21
  go_wp2
  go_loopw [3, 5, 6, 12] (fun ov _ _ iv wr => ∃ (i N : Nat) (A : Option Addr) (c : Nat) (O : List Ent), i ≤ ts.length ∧ iv = .int .i64 i ∧ ov = .slice A N c ∧ N = i ∧ Kp (O.length = i) ∧ Kp (Own wr 66 eTm (.slice A N c) O) ∧ Kp (Fresh w (.slice A N c)) ∧ Kp (Below w.heap.size w wr) ∧ Kp (O.Perm (ts.take i) ∧ O.Pairwise ltE)) (fun _ _ _ iv _ => ts.length - (intOf iv).toNat)
  case atStart => exact ⟨0, 0, none, 0, [], Nat.zero_le _, rfl, rfl, rfl, ⟨rfl⟩, ⟨Own.nil _ _ _⟩, ⟨Fresh.nil _ _ _⟩, ⟨Below.refl _ _⟩, ⟨List.Perm.refl _, List.Pairwise.nil⟩⟩
  case round =>
    obtain ⟨i, N, A, c, O, hi, rfl, rfl, rfl, hOl, hO, hF, hB, hP⟩ := hrel
    by_cases hlt : N < ts.length
    · cases AL with
      | none => have := (hs.out.none rfl).1; subst this; simp at hlt
      | some ad =>
        obtain ⟨g, o, rfl⟩ := hs.out.addr (by omega)
        have H0 : wr.cell? ⟨g, o + N * 2, none⟩ = some (.int .i64 ts[N].ref) := (hs.out.below hB.out).elem N 0 hlt (by decide)
        have H1 : wr.cell? ⟨g, o + N * 2 + 1, none⟩ = some (.int .i64 ts[N].dl) := (hs.out.below hB.out).elem N 1 hlt (by decide)
        obtain ⟨t, ht⟩ : ∃ t, t = ts[N] := ⟨_, rfl⟩
        rw [← ht] at H0 H1
        have HT := Kp.mk ht
        have HTN : Kp (∀ e ∈ ts.take N, e.tn < t.tn) := ⟨fun e he => by
          obtain ⟨j, hj, rfl⟩ := List.mem_iff_getElem.1 he
          rw [List.length_take] at hj
          rw [List.getElem_take, ht]
          exact List.pairwise_iff_getElem.1 HSRT.out j N (by omega) hlt (by omega)⟩
        have HTK : Kp (ts.take (N + 1) = ts.take N ++ [t]) := ⟨by rw [List.take_succ_eq_append_getElem hlt, ht]⟩
        have hbx : Below wr.heap.size wr (wr.alloc (.cells #[.int .i64 t.ref, .int .i64 t.dl] 66)) := (Below.refl _ _).alloc (Nat.le_refl _) _
        have al := hO.out.below hbx
        have hOl2 := hOl.out
        have HBX := Kp.mk (blk_new wr (.cells #[.int .i64 t.ref, .int .i64 t.dl] 66))
        have HBB := Kp.mk hbx
        clear ht hbx
        go_upto_region 7 with (at_builtin; refine app1_ev T38 t rfl _ _ rfl al rfl rfl rfl (by simp) rfl (by omega) (by omega) ?_; intro A' n' c' w1 a0 a1 a2 a3)
        obtain rfl : n' = N + 1 := by have h1 := a0.out; omega
        obtain ⟨g1, rfl⟩ : ∃ g, A' = some ⟨g, 0, none⟩ := by
          obtain ⟨A2, c2, hv2, _, _, hs0, hs1⟩ := a1.shape
          have ea : A' = A2 := by injection hv2
          cases hA : A2 with
          | none => have h1 := (hs0 hA).1; simp at h1
          | some x => obtain ⟨g, rfl⟩ := hs1 x hA; exact ⟨g, by rw [ea, hA]⟩
        obtain ⟨bt, hbt⟩ : ∃ bt, bt = wr.heap.size := ⟨_, rfl⟩
        have hg1 : g1 ≠ bt := by
          rcases a3 with h | ⟨g', h, h2⟩
          · have h3 : (Value.slice A N c).ownBlock = some g1 := by rw [← h]; rfl
            have := hO.out.lt h3
            omega
          · have h4 : g1 = g' := by simpa [Value.ownBlock] using h
            simp at h2
            omega
        have X1 : Kp (w1.heap[bt]? = some (.cells #[.int .i64 t.ref, .int .i64 t.dl] 66 (0, 0))) := ⟨by
          rw [hbt]
          refine a2.at HBX.out (fun hF2 => ?_)
          have := hO.out.lt hF2
          omega⟩
        have O1 := Kp.mk a1
        have F1 : Kp (Fresh w (.slice (some ⟨g1, 0, none⟩) (N + 1) c')) := ⟨hF.out.app (Nat.le_trans hB.out.size HBB.out.size) a3⟩
        have B1 : Kp (Below w.heap.size w w1) := ⟨chg_below (hB.out.alloc hB.out.size _) a2 (fun g hg => hF.out g hg) (Nat.le_trans hB.out.size HBB.out.size)⟩
        have HOL : Kp (O.length = N) := ⟨hOl.out⟩
        have HP := hP
        rw [← hbt]
        clear hbt a0 a1 a2 a3 al H0 H1 HBX HBB hO hF hB hP hOl hOl2
        go_loopw [6] (fun kv wx => ∃ (k : Nat) (S : List Ent), k ≤ N ∧ kv = .int .i64 k ∧ Kp (Hole O S t k) ∧ Kp (Own wx 66 eTm (.slice (some ⟨g1, 0, none⟩) (N + 1) c') S) ∧ Kp (Chg (fun x => x = g1) w1 wx)) (fun kv _ => (intOf kv).toNat)
        case atStart => exact ⟨N, O ++ [t], Nat.le_refl _, rfl, ⟨by have h1 := Hole.start O t; rw [HOL.out] at h1; exact h1⟩, O1, ⟨Chg.refl _ _⟩⟩
        case round =>
          obtain ⟨k, S, hk, rfl, hH, hS, hC⟩ := hrel
          have X2 := hC.out.at X1.out (fun e => hg1 e.symm)
          have t1 := blk_c X2 1
          have t0 := blk_c X2 0
          have hSl : S.length = N + 1 := by have h1 := hH.out.len; have h2 := HOL.out; omega
          have HSL := Kp.mk hSl
          have hgl := hS.out.lt (g := g1) rfl
          have hbl := lt_of_block X2
          have zz := fun j => hS.out.frozen j
          have HDW : Kp (∀ k, Own (wr.drewN k) 66 eTm (.slice (some ⟨g1, 0, none⟩) (N + 1) c') S) := ⟨fun k => hS.out.frame ((Chg.refl NoF wr).drewN k) (fun _ _ h => h)⟩
          have HCW : Kp (∀ k, Chg (fun x => x = g1) w1 (wr.drewN k)) := ⟨fun k => hC.out.drewN k⟩
          have HBW : Kp (∀ (v : World), Chg (fun x => x = g1) w1 v → Below w.heap.size w v) := ⟨fun v hv => chg_below B1.out hv (fun x hx => F1.out x (by rw [hx]; rfl)) B1.out.size⟩
          cases k with
          | zero =>
            have SET := Kp.mk (fun k => (HDW.out k).setT HSL.out.symm 0 (by omega) t)
            have FIN := Kp.mk hH.out.fill
            have HHI := Kp.mk hH.out.lt
            obtain ⟨cc0, cc1⟩ := hS.out.tm 0 (by omega)
            have z0 := zz (0 * 2)
            have z1 := zz (0 * 2 + 1)
            simp only [Nat.zero_mul, Nat.zero_add] at cc0 cc1 z0 z1
            have h9 : decide ((0 : Int) < 0) = false := rfl
            clear hSl zz X2
            go_wp2_with fail
            go_quiet (fail)
            go_wp2
            go_roundw
            case rel =>
              obtain ⟨p1, p2⟩ := ins_sorted (k := 0) HP.out.1 HP.out.2 (Nat.zero_le _) HHI.out (.inl rfl) HTN.out
              rw [← FIN.out] at p1 p2
              have hch := ((HCW.out nq).setg 0 (.int .i64 t.ref)).setg 1 (.int .i64 t.dl)
              exact ⟨N + 1, N + 1, _, c', S.set 0 t, by omega, by go_num, rfl, rfl, ⟨by rw [List.length_set]; exact HSL.out⟩, ⟨SET.out nq⟩, F1, ⟨HBW.out _ hch⟩, ⟨by rw [HTK.out]; exact p1, p2⟩⟩
            case measure => simp [intOf]; omega
          | succ m =>
            obtain ⟨cm0, cm1⟩ := hS.out.tm m (by omega)
            obtain ⟨cn0, cn1⟩ := hS.out.tm (m + 1) (by omega)
            rw [hH.out.at] at cm0 cm1
            have z0 := zz ((m + 1) * 2)
            have z1 := zz ((m + 1) * 2 + 1)
            have m0 : (0 : Int) < (m : Int) + 1 := by omega
            have m1 : (0 : Int) ≤ (m : Int) := by omega
            have m2 : (m : Int) < (N : Int) + 1 := by omega
            have m3 : (m : Int) + 1 < (N : Int) + 1 := by omega
            have m4 : (m : Int) ≤ 100000 := by omega
            obtain ⟨y, hy⟩ : ∃ y, y = gt O m := ⟨_, rfl⟩
            rw [← hy] at cm0 cm1
            have HY := Kp.mk hy
            by_cases hyt : t.dl < y.dl
            · have hytd : decide (t.dl < y.dl) = true := by simpa using hyt
              have MV := Kp.mk (hH.out.move (by rw [← hy]; exact hyt))
              rw [← hy] at MV
              have SET := Kp.mk (fun k => (HDW.out k).setT HSL.out.symm (m + 1) (by omega) y)
              clear hSl zz X2 hy hyt
              go_wp2_with fail
              go_quiet (fail)
              go_wp2
              go_roundw
              case rel => exact ⟨m, S.set (m + 1) y, by omega, rfl, MV, ⟨SET.out nq⟩, ⟨((HCW.out nq).setg _ _).setg _ _⟩⟩
              case measure => simp [intOf]
            · have hytd : decide (t.dl < y.dl) = false := by simpa using hyt
              have SET := Kp.mk (fun k => (HDW.out k).setT HSL.out.symm (m + 1) (by omega) t)
              have FIN := Kp.mk hH.out.fill
              have HHI := Kp.mk hH.out.lt
              have HLE := Kp.mk hH.out.le
              clear hSl zz X2 hy
              go_wp2_with fail
              go_quiet (fail)
              go_wp2
              go_roundw
              case rel =>
                obtain ⟨p1, p2⟩ := ins_sorted (k := m + 1) HP.out.1 HP.out.2 HLE.out HHI.out (.inr (by rw [Nat.add_sub_cancel, ← HY.out]; omega)) HTN.out
                rw [← FIN.out] at p1 p2
                have hch := ((HCW.out nq).setg ((m + 1) * 2) (.int .i64 t.ref)).setg ((m + 1) * 2 + 1) (.int .i64 t.dl)
                exact ⟨N + 1, N + 1, _, c', S.set (m + 1) t, by omega, by go_num, rfl, rfl, ⟨by rw [List.length_set]; exact HSL.out⟩, ⟨SET.out nq⟩, F1, ⟨HBW.out _ hch⟩, ⟨by rw [HTK.out]; exact p1, p2⟩⟩
              case measure => simp [intOf]; omega
    · have htk : ts.take N = ts := List.take_of_length_le (by omega)
      rw [htk] at hP
      have hNl : Kp (N = ts.length) := ⟨by omega⟩
      have hd9 : decide ((N : Int) < (ts.length : Int)) = false := by simp; omega
      have hd8 : ¬ ((N : Int) < (ts.length : Int)) := by omega
      clear hlt htk
      go_wp2
      go_ret
      refine ⟨A, c, O, by rw [← hNl.out]; rfl, by rw [hOl.out]; exact hNl.out, by rw [← hNl.out]; exact hO.out, by rw [← hNl.out]; exact hF.out, hB.out, hP.out.1, hP.out.2⟩
end Go.Proofs.Ytobgabjoehjpcaa
