/- What Next and Due of the reference's wheel answer; no condition but bounds. -/
import Derived.Test.YtobgabjoehjpcaaRc
import Derived.Test.YtobgabjoehjpcaaLw
namespace Go.Proofs.Ytobgabjoehjpcaa
open Go.RowKit

def RNextPost (w : World) (ts : List Ent) (e : Ending) (w' : World) : Prop := ∃ R : List Ent, R.Perm ts ∧ R.Pairwise ltE ∧ e = .returned (.tuple #[.int .i64 (nextV R), .int .i64 (nextE R)]) ∧ Below w.heap.size w w'
set_option maxHeartbeats 1000000 in
theorem rnext_any (w : World) (q : Nat) (lv : Value) (ts : List Ent) (h : IsRf w q lv ts) (hn : ts.length ≤ 100000) (hsrt : ts.Pairwise (fun a b => a.tn < b.tn)) :
    Calls Try.prog 35 #[.pointer (some ⟨q, 0, none⟩)] w (RNextPost w ts) := by
  have HA := Kp.mk (rall_any w q lv ts h hn hsrt)
  clear h hsrt
  go_enter Try.func35, Try.ntmps35
  go_wp2_with fail
  refine HA.out.mono ?_
  rintro e w1 ⟨A, c, R, rfl, hRl, ho, _, hb, hp, hs⟩
  have HR := Kp.mk (And.intro hp hs)
  have HB := Kp.mk hb
  by_cases hl : R = []
  · have e : Kp (nextE R = 5 ∧ nextV R = 0) := ⟨by unfold nextE nextV; rw [if_pos hl, if_pos hl]; exact ⟨rfl, rfl⟩⟩
    rw [hl] at hRl
    simp at hRl
    have h0 : ts.length = 0 := by omega
    rw [h0]
    clear hRl ho hb hp hs hl HA
    go_wp2
    go_ret2
    exact ⟨R, HR.out.1, HR.out.2, by rw [e.out.1, e.out.2]; rfl, HB.out⟩
  · have e : Kp (nextE R = 0 ∧ nextV R = (gt R 0).dl) := ⟨by unfold nextE nextV; rw [if_neg hl, if_neg hl]; exact ⟨rfl, rfl⟩⟩
    have hi : 0 < R.length := List.length_pos_iff.2 hl
    obtain ⟨g, rfl⟩ : ∃ g, A = some ⟨g, 0, none⟩ := by
      obtain ⟨A2, c2, hv2, _, _, hs0, hs1⟩ := ho.shape
      have ea : A = A2 := by injection hv2
      cases hA : A2 with
      | none => have h1 := (hs0 hA).1; exact absurd h1 hl
      | some x => obtain ⟨g, rfl⟩ := hs1 x hA; exact ⟨g, by rw [ea, hA]⟩
    obtain ⟨a0, a1⟩ := ho.tm 0 hi
    simp only [Nat.zero_mul, Nat.zero_add] at a0 a1
    have k1 : (0 : Int) < (ts.length : Int) := by omega
    have k2 : ((ts.length : Int) == 0) = false := by rw [beq_eq_false_iff_ne]; omega
    have k3 : ¬ ((ts.length : Int) = 0) := by omega
    clear hRl ho hb hp hs hl HA
    go_wp2
    go_ret2
    exact ⟨R, HR.out.1, HR.out.2, by rw [e.out.1, e.out.2]; rfl, HB.out⟩
theorem next_same {l R ts : List Ent} {tn : Int} (h : Sim l ts tn) (hp : R.Perm ts) (hs : R.Pairwise ltE) : nextV R = nextV l ∧ nextE R = nextE l := by
  have hpl : R.Perm l := hp.trans h.perm.symm
  by_cases hl : l = []
  · rw [hl] at hpl
    rw [hl, List.Perm.eq_nil hpl]
    exact ⟨rfl, rfl⟩
  · have hR : R ≠ [] := fun e => by rw [e] at hpl; exact hl (List.Perm.eq_nil hpl.symm)
    unfold nextV nextE
    rw [if_neg hl, if_neg hR, if_neg hl, if_neg hR]
    refine ⟨?_, rfl⟩
    have hll := List.length_pos_iff.2 hl
    have hRl := List.length_pos_iff.2 hR
    have m1 : gt R 0 ∈ l := hpl.mem_iff.1 (gt_mem R 0 hRl)
    obtain ⟨k, hk, e1⟩ := mem_gt m1
    have c1 := heap_min h.heap k hk
    rw [e1] at c1
    have m2 : gt l 0 ∈ R := hpl.mem_iff.2 (gt_mem l 0 hll)
    obtain ⟨j, hj, e2⟩ := mem_gt m2
    by_cases hj0 : j = 0
    · subst hj0; rw [e2]
    · have c2 := List.pairwise_iff_getElem.1 hs 0 j hRl hj (by omega)
      rw [← gt_get R 0 hRl, ← gt_get R j hj, e2] at c2
      unfold le' ltE at c1
      unfold ltE at c2
      omega
/-- Take one out by its ref. -/
theorem out_filter {l : List Ent} (hr : l.Pairwise (fun a b => a.ref ≠ b.ref)) {i : Nat} (hi : i < l.length) : l.take i ++ l.drop (i + 1) = l.filter (fun e => e.ref != (gt l i).ref) := by
  have h1 : l = l.take i ++ gt l i :: l.drop (i + 1) := by
    rw [gt_get l i hi, List.getElem_cons_drop, List.take_append_drop]
  have hr2 := hr
  rw [h1, List.pairwise_append] at hr2
  obtain ⟨_, hr3, hr4⟩ := hr2
  obtain ⟨hr5, _⟩ := List.pairwise_cons.1 hr3
  have a1 : (l.take i).filter (fun e => e.ref != (gt l i).ref) = l.take i := List.filter_eq_self.2 fun e he => by have := hr4 e he (gt l i) (List.mem_cons_self); simpa using this
  have a2 : (l.drop (i + 1)).filter (fun e => e.ref != (gt l i).ref) = l.drop (i + 1) := List.filter_eq_self.2 fun e he => by have := hr5 e he; simpa using fun e9 => this e9.symm
  generalize hx : gt l i = x at *
  conv => rhs; rw [h1]
  rw [List.filter_append, List.filter_cons, a1, a2]
  simp
theorem fw_fresh {w0 w : World} {p : Nat} {v v' : Value} (h : ∀ g, FW p v g → w0.heap.size ≤ g) (hf : Fresh w v') (hb : w0.heap.size ≤ w.heap.size) : ∀ g, FW p v' g → w0.heap.size ≤ g := fun g hg => by
  rcases hg with rfl | hg
  · exact h g (.inl rfl)
  · have := hf g hg; omega
def RDuePost (w : World) (q : Nat) (lv : Value) (ts : List Ent) (now : Int) (e : Ending) (w' : World) : Prop :=
  (dueE now = 1 ∧ e = .returned (.tuple #[.slice none 0 0, .int .i64 1]) ∧ w = w') ∨
  (dueE now = 0 ∧ ∃ A c D lv', e = .returned (.tuple #[.slice A D.length c, .int .i64 0]) ∧ Own w' 2 eI64 (.slice A D.length c) (eRef D) ∧ Fresh w (.slice A D.length c) ∧ D.Perm (ts.filter (fun e => decide (e.dl ≤ now))) ∧ D.Pairwise ltE ∧
    IsRf w' q lv' (ts.filter (fun e => !decide (e.dl ≤ now))) ∧ (lv'.ownBlock = lv.ownBlock ∨ Fresh w lv') ∧ Chg (FW q lv) w w')
theorem Own.rf {w w' : World} {v : Value} {l : List Int} {q : Nat} {lv : Value} {ts : List Ent} (h : Own w 2 eI64 v l) (hw : IsRf w q lv ts) (hc : Chg (FW q lv) w w') : Own w' 2 eI64 v l :=
  h.frame hc fun g hg hF => by
    rcases hF with rfl | hF
    · exact h.ne hw.blk (by decide) hg
    · obtain ⟨cur, hcur⟩ := hw.own.blk' hF
      exact h.ne hcur (by decide) hg
set_option maxRecDepth 100000 in
set_option maxHeartbeats 4000000 in
theorem rdue_any (w : World) (q : Nat) (lv : Value) (ts : List Ent) (now : Int) (h : IsRf w q lv ts) (hn : ts.length ≤ 100000) (hsrt : ts.Pairwise (fun a b => a.tn < b.tn)) (hrf : ts.Pairwise (fun a b => a.ref ≠ b.ref)) :
    Calls Try.prog 36 #[.pointer (some ⟨q, 0, none⟩), .int .i64 now] w (RDuePost w q lv ts now) := by
  have HH := Kp.mk h
  by_cases h1 : now < 0
  · have e : Kp (dueE now = 1) := ⟨dueE_1 (.inl h1)⟩
    have d1 : decide (now < 0) = true := by simpa using h1
    clear h
    go_enter Try.func36, Try.ntmps36
    go_wp2
    go_ret2
    exact .inl ⟨e.out, rfl, rfl⟩
  have d1 : decide (now < 0) = false := by simpa using h1
  by_cases h2 : 1152921504606846976 < now
  · have e : Kp (dueE now = 1) := ⟨dueE_1 (.inr h2)⟩
    have d2 : decide (1152921504606846976 < now) = true := by simpa using h2
    clear h
    go_enter Try.func36, Try.ntmps36
    go_wp2
    go_ret2
    exact .inl ⟨e.out, rfl, rfl⟩
  have d2 : decide (1152921504606846976 < now) = false := by simpa using h2
  have e : Kp (dueE now = 0) := ⟨dueE_0 (by omega) (by omega)⟩
  have HA := Kp.mk (rall_any w q lv ts h hn hsrt)
  have HRF := Kp.mk hrf
  clear h hsrt hrf
  go_enter Try.func36, Try.ntmps36
  go_wp2_with fail
  refine HA.out.mono ?_
  rintro e1 w1 ⟨Ar, cr, R, rfl, hRl, hor, hfr, hb1, hp, hs⟩
  have HP := Kp.mk (And.intro hp hs)
  have HB1 := Kp.mk hb1
  have HRL := Kp.mk hRl
  have H1 := Kp.mk (HH.out.below hb1)
  have OR := Kp.mk hor
  obtain ⟨m, hm⟩ : ∃ m, m = ts.length := ⟨_, rfl⟩
  have hmb : m ≤ 100000 := by omega
  rw [← hm] at HRL OR ⊢
  clear hRl hor hfr hb1 hp hs HA hm
  go_wp2
  go_loopw [6, 8, 20] (fun ov _ iv wr => ∃ (i N : Nat) (A : Option Addr) (c : Nat), i ≤ m ∧ iv = .int .i64 i ∧ ov = .slice A N c ∧ N ≤ i ∧ Kp (N = ((R.take i).filter (fun e => decide (e.dl ≤ now))).length) ∧ Kp (Own wr 2 eI64 (.slice A N c) (eRef ((R.take i).filter (fun e => decide (e.dl ≤ now))))) ∧ Kp (Fresh w1 (.slice A N c)) ∧ Kp (Below w1.heap.size w1 wr)) (fun _ _ iv _ => m - (intOf iv).toNat)
  case atStart => exact ⟨0, 0, none, 0, Nat.zero_le _, rfl, rfl, Nat.le_refl _, ⟨rfl⟩, ⟨Own.nil _ _ _⟩, ⟨Fresh.nil _ _ _⟩, ⟨Below.refl _ _⟩⟩
  case round =>
    obtain ⟨i, N, A, c, hi, rfl, rfl, hNi, hN, hO, hF, hB⟩ := hrel
    by_cases hlt : i < m
    · have hiR : i < R.length := by have := HRL.out; omega
      have hor := OR.out.frame (Chg.of_below hB.out NoF) (fun _ _ h => h)
      obtain ⟨g, rfl⟩ : ∃ g, Ar = some ⟨g, 0, none⟩ := by
        obtain ⟨A2, c2, hv2, _, _, hs0, hs1⟩ := hor.shape
        have ea : Ar = A2 := by injection hv2
        cases hA : A2 with
        | none => have h1 := (hs0 hA).1; rw [h1] at hiR; simp at hiR
        | some x => obtain ⟨g, rfl⟩ := hs1 x hA; exact ⟨g, by rw [ea, hA]⟩
      obtain ⟨c0, c1⟩ := hor.tm i hiR
      obtain ⟨x, hx⟩ : ∃ x, x = gt R i := ⟨_, rfl⟩
      rw [← hx] at c0 c1
      have htk : R.take (i + 1) = R.take i ++ [x] := by rw [List.take_succ_eq_append_getElem hiR, hx, gt_get R i hiR]
      have hbx : Below wr.heap.size wr (wr.alloc (.cells #[.int .i64 x.ref, .int .i64 x.dl] 66)) := (Below.refl _ _).alloc (Nat.le_refl _) _
      have al := hO.out.below hbx
      have HBX := Kp.mk hbx
      have i0 : (0 : Int) ≤ (i : Int) := by omega
      have i1 : (i : Int) < (m : Int) := by omega
      by_cases hnow : x.dl ≤ now
      · have hnd : decide (x.dl ≤ now) = true := by simpa using hnow
        have HTK : Kp ((R.take (i + 1)).filter (fun e => decide (e.dl ≤ now)) = (R.take i).filter (fun e => decide (e.dl ≤ now)) ++ [x]) := ⟨by rw [htk, List.filter_append]; simp [hnow]⟩
        have hlN : (eRef ((R.take i).filter (fun e => decide (e.dl ≤ now)))).length = N := by unfold eRef; rw [List.length_map, hN.out]
        have HLN := Kp.mk hlN
        clear hor hx htk hbx hnow
        go_wp2_with (at_builtin; refine app1_ev T32 x.ref rfl _ _ rfl al rfl rfl rfl (by simp) rfl (by omega) (by omega) ?_; intro A' n' c' w6 b0 b1 b2 b3)
        go_roundw
        case rel =>
          refine ⟨i + 1, n', A', c', by omega, by go_num, rfl, by have h1 := b0.out; omega, ⟨?_⟩, ⟨?_⟩, ⟨hF.out.app (Nat.le_trans hB.out.size HBX.out.size) b3⟩, ⟨chg_below (hB.out.alloc hB.out.size _) b2 (fun g hg => hF.out g hg) (Nat.le_trans hB.out.size HBX.out.size)⟩⟩
          · rw [HTK.out, List.length_append, ← hN.out, b0.out, HLN.out]; rfl
          · rw [HTK.out]
            have h7 : eRef ((R.take i).filter (fun e => decide (e.dl ≤ now)) ++ [x]) = eRef ((R.take i).filter (fun e => decide (e.dl ≤ now))) ++ [x.ref] := by simp [eRef]
            rw [h7]; exact b1
        case measure => simp [intOf]; omega
      · have hnd : decide (x.dl ≤ now) = false := by simpa using hnow
        have HTK : Kp ((R.take (i + 1)).filter (fun e => decide (e.dl ≤ now)) = (R.take i).filter (fun e => decide (e.dl ≤ now))) := ⟨by rw [htk, List.filter_append]; simp [hnow]⟩
        clear hor hx htk hbx hnow
        go_wp2
        go_roundw
        case rel => exact ⟨i + 1, N, A, c, by omega, by go_num, rfl, by omega, ⟨by rw [HTK.out]; exact hN.out⟩, ⟨by rw [HTK.out]; exact al⟩, hF, ⟨hB.out.alloc hB.out.size _⟩⟩
        case measure => simp [intOf]; omega
    · have hRt : R.take i = R := List.take_of_length_le (by have := HRL.out; omega)
      rw [hRt] at hN hO
      have hd9 : decide ((i : Int) < (m : Int)) = false := by simp; omega
      have hd8 : ¬ ((i : Int) < (m : Int)) := by omega
      obtain ⟨D, hD⟩ : ∃ D, D = R.filter (fun e => decide (e.dl ≤ now)) := ⟨_, rfl⟩
      rw [← hD] at hN hO
      have hDP : Kp (D.Perm (ts.filter (fun e => decide (e.dl ≤ now))) ∧ D.Pairwise ltE) := ⟨by rw [hD]; exact ⟨HP.out.1.filter _, HP.out.2.filter _⟩⟩
      have HBW := Kp.mk (bstep HB1.out HB1.out.size hB.out)
      have HFW : Kp (Fresh w (.slice A N c)) := ⟨hF.out.up HB1.out.size⟩
      have R0 : Kp (IsRf wr q lv (ts.filter (fun e => decide (e.ref ∉ eRef (D.take 0))))) := ⟨by
        have h9 := H1.out.below hB.out
        have : ts.filter (fun e => decide (e.ref ∉ eRef (D.take 0))) = ts := List.filter_eq_self.2 fun e _ => by simp [eRef]
        rw [this]; exact h9⟩
      have HO := hO
      have HN := hN
      obtain ⟨W, hW⟩ : ∃ W, W = wr := ⟨_, rfl⟩
      have HC0 : Kp (Chg (FW q lv) w wr) := ⟨Chg.of_below HBW.out _⟩
      have hNb : N ≤ 100000 := by omega
      clear hRt hD hO hN hF hB hW OR
      go_wp2
      go_loopw [10, 36] (fun _ iv wr => ∃ (k : Nat) (lv' : Value), k ≤ N ∧ iv = .int .i64 k ∧ Kp (IsRf wr q lv' (ts.filter (fun e => decide (e.ref ∉ eRef (D.take k))))) ∧ Kp (lv'.ownBlock = lv.ownBlock ∨ Fresh w lv') ∧ Kp (Own wr 2 eI64 (.slice A N c) (eRef D)) ∧ Kp (Chg (FW q lv) w wr)) (fun _ iv _ => N - (intOf iv).toNat)
      case atStart => exact ⟨0, lv, Nat.zero_le _, rfl, R0, ⟨.inl rfl⟩, HO, HC0⟩
      case round =>
        clear R0 HO HC0
        obtain ⟨k, lv', hk, rfl, hR, hS, hO, hC⟩ := hrel
        by_cases hlt2 : k < N
        · have hkD : k < D.length := by have := HN.out; omega
          have hkE : k < (eRef D).length := by unfold eRef; rw [List.length_map]; exact hkD
          obtain ⟨g, rfl⟩ : ∃ g, A = some ⟨g, 0, none⟩ := by
            obtain ⟨A2, c2, hv2, _, _, hs0, hs1⟩ := hO.out.shape
            have ea : A = A2 := by injection hv2
            cases hA : A2 with
            | none => have h1 := (hs0 hA).1; rw [h1] at hkE; simp at hkE
            | some x => obtain ⟨g, rfl⟩ := hs1 x hA; exact ⟨g, by rw [ea, hA]⟩
          have hel : (eRef D)[k] = D[k].ref := by simp [eRef]
          have c0 : wr.cell? ⟨g, k, none⟩ = some (.int .i64 D[k].ref) := by have := hO.out.elem k 0 hkE (by decide); rw [hel] at this; simpa [eI64] using this
          obtain ⟨x, hx⟩ : ∃ x, x = D[k] := ⟨_, rfl⟩
          rw [← hx] at c0
          obtain ⟨cur, hcur⟩ : ∃ cur, cur = ts.filter (fun e => decide (e.ref ∉ eRef (D.take k))) := ⟨_, rfl⟩
          rw [← hcur] at hR
          have hclen : cur.length ≤ 100000 := by rw [hcur]; exact Nat.le_trans (List.length_filter_le _ _) hn
          have hcref : cur.Pairwise (fun a b => a.ref ≠ b.ref) := by rw [hcur]; exact HRF.out.filter _
          have hxts : x ∈ ts := by
            have h1 : x ∈ D := by rw [hx]; exact List.getElem_mem _
            exact (List.mem_filter.1 (hDP.out.1.mem_iff.1 h1)).1
          have hDref : D.Pairwise (fun a b => a.ref ≠ b.ref) := (List.Perm.pairwise_iff (fun h e => h e.symm) hDP.out.1).2 (HRF.out.filter _)
          have hxc : x ∈ cur := by
            rw [hcur]
            refine List.mem_filter.2 ⟨hxts, ?_⟩
            simp only [decide_eq_true_eq]
            intro hm
            unfold eRef at hm
            obtain ⟨y, hy, hyr⟩ := List.mem_map.1 hm
            obtain ⟨j, hj, rfl⟩ := List.mem_iff_getElem.1 hy
            rw [List.length_take] at hj
            rw [List.getElem_take, hx] at hyr
            exact List.pairwise_iff_getElem.1 hDref j k (by omega) hkD (by omega) hyr
          have hnext : Kp (∀ i, i < cur.length → (gt cur i).ref = x.ref → cur.take i ++ cur.drop (i + 1) = ts.filter (fun e => decide (e.ref ∉ eRef (D.take (k + 1))))) := ⟨fun i hi hr => by
            rw [out_filter hcref hi, hr, hcur, List.filter_filter]
            have e9 : D.take (k + 1) = D.take k ++ [x] := by rw [List.take_succ_eq_append_getElem hkD, hx]
            rw [e9]
            congr 1
            funext e
            simp only [eRef, List.map_append, List.map_cons, List.map_nil, List.mem_append, List.mem_singleton]
            rw [Bool.eq_iff_iff]
            simp only [Bool.and_eq_true, bne_iff_ne, ne_eq, decide_eq_true_eq, not_or]
            exact ⟨fun h => ⟨of_decide_eq_true h.2, h.1⟩, fun h => ⟨h.2, decide_eq_true h.1⟩⟩⟩
          have HXC : Kp (∃ i, i < cur.length ∧ (gt cur i).ref = x.ref) := ⟨by obtain ⟨i, hi, he⟩ := mem_gt hxc; exact ⟨i, hi, by rw [he]⟩⟩
          have HF := Kp.mk (find_any wr q lv' cur x.ref hR.out (by omega))
          have k0 : (0 : Int) ≤ (k : Int) := by omega
          have k1 : (k : Int) < (N : Int) := by omega
          clear hel hx hcur hcref hxts hDref hxc
          go_wp2_with fail
          refine HF.out.mono ?_
          rintro e2 w5 ⟨r, hr, rfl, hb5⟩
          obtain ⟨i, hi, rfl, hri⟩ : ∃ i : Nat, i < cur.length ∧ r = i ∧ (gt cur i).ref = x.ref := by
            rcases hr with ⟨i, hi, rfl, hri, _⟩ | ⟨rfl, hno⟩
            · exact ⟨i, hi, rfl, hri⟩
            · obtain ⟨i, hi, hri⟩ := HXC.out
              exact absurd hri (hno i hi)
          have R5 := Kp.mk (hR.out.below hb5)
          have HOU := Kp.mk (out_any w5 q lv' cur i R5.out hi (by omega))
          rw [hnext.out i hi hri] at HOU
          have C5 : Kp (Chg (FW q lv) w w5) := ⟨hC.out.then (Chg.of_below hb5 _)⟩
          have O5 := Kp.mk (hO.out.below hb5)
          clear hr hb5 HF hri
          go_wp2_with fail
          refine HOU.out.mono ?_
          rintro e6 w6 ⟨⟨v, rfl⟩, lv6, h6, hf6, hc6⟩
          have R6 := Kp.mk h6
          have O6 := Kp.mk (O5.out.rf R5.out hc6)
          have S6 : Kp (lv6.ownBlock = lv.ownBlock ∨ Fresh w lv6) := ⟨.inr (hf6.up C5.out.size)⟩
          have C6 : Kp (Chg (FW q lv) w w6) := ⟨C5.out.trans hc6 (fun n hn hF => by
            rcases hF with h | h
            · exact .inl h
            · rcases hS.out with h2 | h2
              · exact .inr (by rw [← h2]; exact h)
              · have := h2 n h; omega)⟩
          clear h6 hf6 hc6 HOU
          go_wp2
          go_roundw
          case rel => exact ⟨k + 1, lv6, by omega, by go_num, R6, S6, O6, C6⟩
          case measure => simp [intOf]; omega
        · have hd7 : decide ((k : Int) < (N : Int)) = false := by simp; omega
          have hd6 : ¬ ((k : Int) < (N : Int)) := by omega
          have hDt : D.take k = D := List.take_of_length_le (by have := HN.out; omega)
          rw [hDt] at hR
          have hfil : ts.filter (fun e => decide (e.ref ∉ eRef D)) = ts.filter (fun e => !decide (e.dl ≤ now)) := by
            apply List.filter_congr
            intro e he
            have : e.ref ∈ eRef D ↔ e.dl ≤ now := by
              unfold eRef
              rw [List.mem_map]
              constructor
              · rintro ⟨y, hy, hyr⟩
                have h1 := List.mem_filter.1 (hDP.out.1.mem_iff.1 hy)
                have h2 := ref_inj HRF.out h1.1 he hyr
                rw [← h2]; simpa using h1.2
              · intro h
                exact ⟨e, hDP.out.1.mem_iff.2 (List.mem_filter.2 ⟨he, by simpa using h⟩), rfl⟩
            by_cases h : e.dl ≤ now <;> simp [this, h]
          rw [hfil] at hR
          have HN2 := HN
          clear hDt hfil
          go_wp2
          go_ret2
          have h9 := HN2.out
          subst h9
          exact .inr ⟨e.out, A, c, D, lv', rfl, hO.out, HFW.out, hDP.out.1, hDP.out.2, hR.out, hS.out, hC.out⟩
end Go.Proofs.Ytobgabjoehjpcaa
