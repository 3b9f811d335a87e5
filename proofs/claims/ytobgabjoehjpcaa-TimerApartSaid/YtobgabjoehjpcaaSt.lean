/- One call of both wheels: what step of package timer's law answers; bounds stand in each statement. -/
import Derived.Test.YtobgabjoehjpcaaRd
import Derived.Test.YtobgabjoehjpcaaLa
namespace Go.Proofs.Ytobgabjoehjpcaa
open Go.RowKit

/-- Behind a call. -/
def StepPost (w0 : World) (p q : Nat) (s : MS) (e : Ending) (w' : World) : Prop := e = .returned (.bool true) ∧ ∃ qv lv s', Two w0 w' p q qv lv s' ∧ Ok s' ∧ s'.tn ≤ s.tn + 1
theorem whenE_perm {l ts : List Ent} (h : l.Perm ts) (r : Int) : whenE l r = whenE ts r := by
  unfold whenE
  by_cases h2 : ∃ j, j < ts.length ∧ (gt ts j).ref = r
  · rw [if_pos h2, if_pos ((ex_perm h r).2 h2)]
  · rw [if_neg h2, if_neg (fun h4 => h2 ((ex_perm h r).1 h4))]
theorem Sim.same {l ts : List Ent} {tn : Int} (h : Sim l ts tn) {i j : Nat} (hi : i < l.length) (hj : j < ts.length) (hr : (gt l i).ref = (gt ts j).ref) : gt l i = gt ts j :=
  ref_inj h.refs (h.perm.mem_iff.1 (gt_mem l i hi)) (gt_mem ts j hj) hr
theorem Sim.rem {l ts : List Ent} {tn : Int} (h : Sim l ts tn) {i j : Nat} (hi : i < l.length) (hj : j < ts.length) (hr : (gt l i).ref = (gt ts j).ref) : Sim (remL l (l.length - 1) i) (ts.take j ++ ts.drop (j + 1)) tn := by
  have he := h.same hi hj hr
  obtain ⟨h1, h2⟩ := remL_heap l (l.length - 1) i (by omega) (by omega) h.heap
  have h3 : (gt ts j :: (ts.take j ++ ts.drop (j + 1))).Perm ts := by
    have : ts = ts.take j ++ gt ts j :: ts.drop (j + 1) := by rw [gt_get ts j hj, List.getElem_cons_drop, List.take_append_drop]
    conv => rhs; rw [this]
    exact List.perm_middle.symm
  have hsub : (ts.take j ++ ts.drop (j + 1)).Sublist ts := by rw [← List.eraseIdx_eq_take_drop_succ]; exact List.eraseIdx_sublist _ _
  have hp : (remL l (l.length - 1) i).Perm (ts.take j ++ ts.drop (j + 1)) := by
    have h4 := (h2.trans h.perm).trans h3.symm
    rw [he] at h4
    exact (List.perm_cons _).1 h4
  have hlen : (remL l (l.length - 1) i).length = l.length - 1 := by have := h2.length_eq; simp at this; omega
  exact ⟨hp, by rw [hlen]; exact h1, h.srt.sublist hsub, fun e he => h.top e (hsub.subset he), h.refs.sublist hsub⟩
/-- The reference's part turned. -/
theorem Two.turnR {w0 w w' : World} {p q : Nat} {qv lv lv' : Value} {s : MS} {l : List Ent} {tn : Int} {ts : List Ent} (hw : IsWh w p qv l tn) (h : IsRf w q lv s.ts) (hr : IsRf w' q lv' ts) (hc : Chg (FW q lv) w w') : IsWh w' p qv l tn := hw.apart h hc
set_option maxRecDepth 100000 in
set_option maxHeartbeats 4000000 in
theorem step_0 (w0 w : World) (p q : Nat) (qv lv : Value) (s : MS) (ref tick : Int) (h : Two w0 w p q qv lv s) (ok : Ok s) (ht : s.tn ≤ 900000000000000000) :
    Calls Try.prog 27 #[.pointer (some ⟨p, 0, none⟩), .pointer (some ⟨q, 0, none⟩), .agg #[.int .i64 0, .int .i64 ref, .int .i64 tick]] w (StepPost w0 p q s) := by
  have hbx : Below w.heap.size w (w.alloc (.cells #[.int .i64 0, .int .i64 ref, .int .i64 tick] 51)) := (Below.refl _ _).alloc (Nat.le_refl _) _
  have H := Kp.mk (h.below hbx)
  have HX := Kp.mk (blk_new w (.cells #[.int .i64 0, .int .i64 ref, .int .i64 tick] 51))
  have HZ : Kp (∀ g, FW p qv g → g < w.heap.size) := ⟨fun g hg => h.wh.fwlt g hg⟩
  have OK := Kp.mk ok
  have HW0 : Kp (w0.heap.size ≤ w.heap.size) := ⟨h.bel.size⟩
  have HZR : Kp (∀ g, FW q lv g → g < w.heap.size) := ⟨fun g hg => h.rf.fwlt g hg⟩
  clear h ok hbx
  go_enter Try.func27, Try.ntmps27
  go_upto_region 3 with fail
  have T0 : Kp (Two w0 (w.alloc (.cells #[.int .i64 0, .int .i64 ref, .int .i64 tick] 51)).drew p q qv lv s) := ⟨H.out.below (Below.refl _ _).drew⟩
  have X0 : Kp ((w.alloc (.cells #[.int .i64 0, .int .i64 ref, .int .i64 tick] 51)).drew.heap[w.heap.size]? = some (.cells #[.int .i64 0, .int .i64 ref, .int .i64 tick] 51 (0, 0))) := ⟨HX.out⟩
  refine R_begin 999 (fun w9 => w9.cell? ⟨w.heap.size, 1, none⟩ = some (.int .i64 ref) ∧ w9.cell? ⟨w.heap.size, 2, none⟩ = some (.int .i64 tick)) (by kernel_rfl) ⟨blk_c X0.out 1, blk_c X0.out 2⟩ (fun HP0 => ?_)
  refine R_pure 0 rfl (by kernel_rfl) HP0 ?_
  apply Exists.intro
  refine ⟨fun _ _ _ h => h, .inl ⟨by kernel_rfl, fun w9 h9 => ?_⟩, fun HP1 => ?_⟩
  · clear h9; go_simp; first | done | rfl
  clear HP0
  refine R_pure 1 rfl (by kernel_rfl) HP1 ?_
  apply Exists.intro
  refine ⟨fun _ _ _ h => h, .inl ⟨by kernel_rfl, fun w9 h9 => ?_⟩, fun HP2 => ?_⟩
  · clear h9; go_simp; first | done | rfl
  clear HP1
  refine R_take 2 rfl (by kernel_rfl) HP2 ?_
  apply Exists.intro
  refine ⟨fun _ _ _ h => h, .inl ⟨by kernel_rfl, fun w9 h9 => ?_⟩, fun HP3 => ?_⟩
  · obtain ⟨s1, s2⟩ := h9; go_simp; first | done | rfl
  clear HP2
  refine R_pure 3 rfl (by kernel_rfl) HP3 ?_
  apply Exists.intro
  refine ⟨fun _ _ _ h => h, .inl ⟨by kernel_rfl, fun w9 h9 => ?_⟩, fun HP4 => ?_⟩
  · clear h9; go_simp; first | done | rfl
  clear HP3
  refine R_take 4 rfl (by kernel_rfl) HP4 ?_
  apply Exists.intro
  refine ⟨fun _ _ _ h => h, .inl ⟨by kernel_rfl, fun w9 h9 => ?_⟩, fun HP5 => ?_⟩
  · obtain ⟨s1, s2⟩ := h9; go_simp; first | done | rfl
  clear HP4
  refine R_pure 6 rfl (by kernel_rfl) HP5 ?_
  apply Exists.intro
  refine ⟨fun _ _ _ h => h, .inl ⟨by kernel_rfl, fun w9 h9 => ?_⟩, fun HP6 => ?_⟩
  · clear h9; go_simp; first | done | rfl
  clear HP5
  refine R_pure 7 rfl (by kernel_rfl) HP6 ?_
  apply Exists.intro
  refine ⟨fun _ _ _ h => h, .inl ⟨by kernel_rfl, fun w9 h9 => ?_⟩, fun HP7 => ?_⟩
  · clear h9; go_simp; first | done | rfl
  clear HP6
  refine R_take 8 rfl (by kernel_rfl) HP7 ?_
  apply Exists.intro
  refine ⟨fun _ _ _ h => h, .inl ⟨by kernel_rfl, fun w9 h9 => ?_⟩, fun HP8 => ?_⟩
  · obtain ⟨s1, s2⟩ := h9; go_simp; first | done | rfl
  clear HP7
  refine R_pure 9 rfl (by kernel_rfl) HP8 ?_
  apply Exists.intro
  refine ⟨fun _ _ _ h => h, .inl ⟨by kernel_rfl, fun w9 h9 => ?_⟩, fun HP9 => ?_⟩
  · clear h9; go_simp; first | done | rfl
  clear HP8
  refine R_take 10 rfl (by kernel_rfl) HP9 ?_
  apply Exists.intro
  refine ⟨fun _ _ _ h => h, .inl ⟨by kernel_rfl, fun w9 h9 => ?_⟩, fun HP10 => ?_⟩
  · obtain ⟨s1, s2⟩ := h9; go_simp; first | done | rfl
  clear HP9
  refine R_all [5] (by kernel_rfl) ?_
  refine AllR.cons (i := 5) rfl (fun K9 HK9 => ?_) ?_
  · go_simp
    refine (m_set _ p qv s ref tick T0.out.wh OK.out (by omega)).mono ?_
    rintro e w5 ⟨rfl, qv5, h5, s5, c5⟩
    have W5 := Kp.mk h5
    have R5 := Kp.mk (T0.out.rf.apart T0.out.wh c5)
    have B5 := Kp.mk (chg_below T0.out.bel c5 T0.out.fw T0.out.bel.size)
    have F5 := Kp.mk (fw_same T0.out.fw s5 T0.out.bel.size)
    have X5 := Kp.mk (c5.at X0.out (fun hF => by have h1 := HZ.out _ hF; omega))
    clear h5 s5 c5
    go_simp
    refine HK9.out _ _ (.inr ⟨blk_c X5.out 1, blk_c X5.out 2⟩) (fun HP11 => ?_)
    clear HK9 K9
    refine R_all [11] (by kernel_rfl) ?_
    refine AllR.cons (i := 11) rfl (fun K9 HK9 => ?_) ?_
    · go_simp
      refine (m_rset _ q lv s ref tick R5.out OK.out).mono ?_
      rintro e w6 ⟨rfl, lv6, h6, s6, c6⟩
      have T6 : Kp (Two w0 w6 p q qv5 lv6 (s.set ref tick)) := ⟨⟨W5.out.apart R5.out c6, h6, F5.out, fw_same T0.out.fr s6 B5.out.size, chg_below B5.out c6 T0.out.fr B5.out.size⟩⟩
      have X6 := Kp.mk (c6.at X5.out (fun hF => by have h1 := HZR.out _ hF; omega))
      clear h6 s6 c6
      go_simp
      refine HK9.out _ _ (.inr ⟨blk_c X6.out 1, blk_c X6.out 2⟩) (fun HP12 => ?_)
      clear HK9 K9
      refine R_pure 12 rfl (by kernel_rfl) HP12 ?_
      apply Exists.intro
      refine ⟨fun _ _ _ h => h, .inl ⟨by kernel_rfl, fun w9 h9 => ?_⟩, fun HP13 => ?_⟩
      · clear h9; go_simp; first | done | rfl
      clear HP12
      refine R_pure 13 rfl (by kernel_rfl) HP13 ?_
      apply Exists.intro
      refine ⟨fun _ _ _ h => h, .inl ⟨by kernel_rfl, fun w9 h9 => ?_⟩, fun HP14 => ?_⟩
      · clear h9; go_simp; first | done | rfl
      clear HP13
      refine R_done (by kernel_rfl) ?_
      go_wp2
      go_ret
      exact ⟨rfl, _, _, _, T6.out, OK.out.set _ _, s.tn_le _ _⟩
    exact AllR.nil
  exact AllR.nil
set_option maxRecDepth 100000 in
set_option maxHeartbeats 4000000 in
theorem step_1 (w0 w : World) (p q : Nat) (qv lv : Value) (s : MS) (ref tick : Int) (h : Two w0 w p q qv lv s) (ok : Ok s) (ht : s.tn ≤ 900000000000000000) :
    Calls Try.prog 27 #[.pointer (some ⟨p, 0, none⟩), .pointer (some ⟨q, 0, none⟩), .agg #[.int .i64 1, .int .i64 ref, .int .i64 tick]] w (StepPost w0 p q s) := by
  have hbx : Below w.heap.size w (w.alloc (.cells #[.int .i64 1, .int .i64 ref, .int .i64 tick] 51)) := (Below.refl _ _).alloc (Nat.le_refl _) _
  have H := Kp.mk (h.below hbx)
  have HX := Kp.mk (blk_new w (.cells #[.int .i64 1, .int .i64 ref, .int .i64 tick] 51))
  have HZ : Kp (∀ g, FW p qv g → g < w.heap.size) := ⟨fun g hg => h.wh.fwlt g hg⟩
  have OK := Kp.mk ok
  have HW0 : Kp (w0.heap.size ≤ w.heap.size) := ⟨h.bel.size⟩
  clear h ok hbx
  go_enter Try.func27, Try.ntmps27
  have f1 := blk_c HX.out 1
  have C1 := Kp.mk (cancel_any _ p qv s.l s.tn ref H.out.wh (by have := OK.out.len; omega))
  go_wp2_with fail
  refine C1.out.mono ?_
  rintro e w3 ⟨d, rfl, hd⟩
  rcases hd with ⟨he, rfl, hb3⟩ | ⟨he, i, hi, hri, rfl, qv3, h3, hq3, c3⟩
  · have T3 := Kp.mk (H.out.below hb3)
    have f3 := blk_c ((Chg.of_below hb3 NoF).at HX.out (fun h => h)) 1
    have l3 := lt_of_block ((Chg.of_below hb3 NoF).at HX.out (fun h => h))
    have C2 := Kp.mk (rcancel_any w3 q lv s.ts ref T3.out.rf (by rw [OK.out.tlen]; have := OK.out.len; omega))
    rw [he]
    have HE := Kp.mk he
    have HE2 : Kp (whenE s.ts ref = 5) := ⟨by rw [← whenE_perm OK.out.sim.perm]; exact he⟩
    clear hb3 C1 he f1
    go_wp2_with fail
    refine C2.out.mono ?_
    rintro e w4 ⟨d4, rfl, hd4⟩
    rcases hd4 with ⟨he4, rfl, hb4⟩ | ⟨he4, _⟩
    · have T4 := Kp.mk (T3.out.below hb4)
      rw [he4]
      clear hb4 he4 C2
      go_wp2
      go_ret
      exact ⟨rfl, _, _, s, T4.out, OK.out, by omega⟩
    · rw [HE2.out] at he4; cases he4
  · have HE := Kp.mk he
    have HE2 : Kp (whenE s.ts ref = 0) := ⟨by rw [← whenE_perm OK.out.sim.perm]; exact he⟩
    have R3 := Kp.mk (H.out.rf.apart H.out.wh c3)
    have B3 := Kp.mk (chg_below H.out.bel c3 H.out.fw H.out.bel.size)
    have F3 := Kp.mk (fw_eq H.out.fw hq3)
    have W3 := Kp.mk h3
    have x3 := c3.at HX.out (fun hF => by have h1 := HZ.out _ hF; omega)
    have f3 := blk_c x3 1
    have l3 := lt_of_block x3
    have C2 := Kp.mk (rcancel_any w3 q lv s.ts ref R3.out (by rw [OK.out.tlen]; have := OK.out.len; omega))
    have HI := Kp.mk (And.intro hi hri)
    obtain ⟨dl, hdl⟩ : ∃ dl, dl = (gt s.l i).dl := ⟨_, rfl⟩
    rw [he, ← hdl]
    have HDL := Kp.mk hdl
    have hdd : (dl == dl) = true := by simp
    clear h3 hq3 c3 C1 he hi hri x3 hdl f1
    go_wp2_with fail
    refine C2.out.mono ?_
    rintro e w4 ⟨d4, rfl, hd4⟩
    rcases hd4 with ⟨he4, _⟩ | ⟨he4, j, hj, hrj, hd4, lv4, h4, hf4, c4⟩
    · rw [HE2.out] at he4; cases he4
    · have hsm := OK.out.sim.same HI.out.1 hj (by rw [HI.out.2, hrj])
      rw [hd4, ← hsm, ← HDL.out, he4]
      have hrem := OK.out.sim.rem HI.out.1 hj (by rw [HI.out.2, hrj])
      have T4 : Kp (Two w0 w4 p q qv3 lv4 ⟨remL s.l (s.l.length - 1) i, s.ts.take j ++ s.ts.drop (j + 1), s.tn⟩) := ⟨⟨W3.out.apart R3.out c4, h4, F3.out, fw_fresh H.out.fr hf4 B3.out.size, chg_below B3.out c4 H.out.fr B3.out.size⟩⟩
      have OK4 : Kp (Ok ⟨remL s.l (s.l.length - 1) i, s.ts.take j ++ s.ts.drop (j + 1), s.tn⟩) := ⟨⟨hrem, by
        have h9 := (remL_heap s.l (s.l.length - 1) i (by have := HI.out.1; omega) (by have := HI.out.1; omega) OK.out.sim.heap).2.length_eq
        have := OK.out.len
        simp at h9
        show (remL s.l (s.l.length - 1) i).length ≤ 256
        omega, OK.out.tn0⟩⟩
      clear hd4 hsm hj hrj h4 hf4 c4 he4 hrem C2
      go_wp2
      go_ret
      exact ⟨rfl, _, _, _, T4.out, OK4.out, by show s.tn ≤ s.tn + 1; omega⟩
set_option maxRecDepth 100000 in
set_option maxHeartbeats 4000000 in
theorem step_2 (w0 w : World) (p q : Nat) (qv lv : Value) (s : MS) (ref tick : Int) (h : Two w0 w p q qv lv s) (ok : Ok s) (ht : s.tn ≤ 900000000000000000) :
    Calls Try.prog 27 #[.pointer (some ⟨p, 0, none⟩), .pointer (some ⟨q, 0, none⟩), .agg #[.int .i64 2, .int .i64 ref, .int .i64 tick]] w (StepPost w0 p q s) := by
  have hbx : Below w.heap.size w (w.alloc (.cells #[.int .i64 2, .int .i64 ref, .int .i64 tick] 51)) := (Below.refl _ _).alloc (Nat.le_refl _) _
  have H := Kp.mk (h.below hbx)
  have HX := Kp.mk (blk_new w (.cells #[.int .i64 2, .int .i64 ref, .int .i64 tick] 51))
  have HZ : Kp (∀ g, FW p qv g → g < w.heap.size) := ⟨fun g hg => h.wh.fwlt g hg⟩
  have OK := Kp.mk ok
  have HW0 : Kp (w0.heap.size ≤ w.heap.size) := ⟨h.bel.size⟩
  clear h ok hbx
  go_enter Try.func27, Try.ntmps27
  have f1 := blk_c HX.out 1
  have C1 := Kp.mk (when_any _ p qv s.l s.tn ref H.out.wh (by have := OK.out.len; omega))
  go_wp2_with fail
  refine C1.out.mono ?_
  rintro e w3 ⟨d, rfl, hd, hb3⟩
  have T3 := Kp.mk (H.out.below hb3)
  have f3 := blk_c ((Chg.of_below hb3 NoF).at HX.out (fun h => h)) 1
  have l3 := lt_of_block ((Chg.of_below hb3 NoF).at HX.out (fun h => h))
  have C2 := Kp.mk (rwhen_any w3 q lv s.ts ref T3.out.rf (by rw [OK.out.tlen]; have := OK.out.len; omega))
  have HD := Kp.mk hd
  have hee := whenE_perm OK.out.sim.perm ref
  have HEE := Kp.mk hee
  obtain ⟨v, hv⟩ : ∃ v, v = whenE s.l ref := ⟨_, rfl⟩
  rw [← hv]
  have HV := Kp.mk hv
  have hdd : (d == d) = true := by simp
  have hvv : (v == v) = true := by simp
  clear hb3 C1 hd hee hv f1
  go_wp2_with fail
  refine C2.out.mono ?_
  rintro e w4 ⟨d4, rfl, hd4, hb4⟩
  have T4 := Kp.mk (T3.out.below hb4)
  obtain rfl : d4 = d := by
    have h9 := HEE.out
    rcases HD.out with ⟨a1, a2⟩ | ⟨a1, i, a2, a3, _, a5⟩
    · rcases hd4 with ⟨b1, b2⟩ | ⟨b1, _⟩
      · rw [a2, b2]
      · rw [a1, b1] at h9; cases h9
    · rcases hd4 with ⟨b1, b2⟩ | ⟨b1, j, b2, b3, _, b5⟩
      · rw [a1, b1] at h9; cases h9
      · rw [a5, b5, OK.out.sim.same a2 b2 (by rw [a3, b3])]
  rw [← HEE.out, ← HV.out]
  clear hd4 hb4 C2
  go_wp2
  go_ret
  exact ⟨rfl, _, _, s, T4.out, OK.out, by omega⟩
set_option maxRecDepth 100000 in
set_option maxHeartbeats 4000000 in
theorem step_3 (w0 w : World) (p q : Nat) (qv lv : Value) (s : MS) (ref tick : Int) (h : Two w0 w p q qv lv s) (ok : Ok s) (ht : s.tn ≤ 900000000000000000) :
    Calls Try.prog 27 #[.pointer (some ⟨p, 0, none⟩), .pointer (some ⟨q, 0, none⟩), .agg #[.int .i64 3, .int .i64 ref, .int .i64 tick]] w (StepPost w0 p q s) := by
  have hbx : Below w.heap.size w (w.alloc (.cells #[.int .i64 3, .int .i64 ref, .int .i64 tick] 51)) := (Below.refl _ _).alloc (Nat.le_refl _) _
  have H := Kp.mk (h.below hbx)
  have HX := Kp.mk (blk_new w (.cells #[.int .i64 3, .int .i64 ref, .int .i64 tick] 51))
  have HZ : Kp (∀ g, FW p qv g → g < w.heap.size) := ⟨fun g hg => h.wh.fwlt g hg⟩
  have OK := Kp.mk ok
  have HW0 : Kp (w0.heap.size ≤ w.heap.size) := ⟨h.bel.size⟩
  clear h ok hbx
  go_enter Try.func27, Try.ntmps27
  have C1 := Kp.mk (next_any _ p qv s.l s.tn H.out.wh)
  obtain ⟨a, ha⟩ : ∃ a, a = nextV s.l := ⟨_, rfl⟩
  obtain ⟨b, hb⟩ : ∃ b, b = nextE s.l := ⟨_, rfl⟩
  rw [← ha, ← hb] at C1
  have HAB := Kp.mk (And.intro ha hb)
  have haa : (a == a) = true := by simp
  have hbb : (b == b) = true := by simp
  have C2 := Kp.mk (rnext_any _ q lv s.ts H.out.rf (by rw [OK.out.tlen]; have := OK.out.len; omega) OK.out.sim.srt)
  clear ha hb
  go_wp2_with fail
  refine C1.out.mono ?_
  rintro e w3 ⟨rfl, rfl⟩
  go_wp2_with fail
  refine C2.out.mono ?_
  rintro e w4 ⟨R, hp, hs, rfl, hb4⟩
  have T4 := Kp.mk (H.out.below hb4)
  obtain ⟨n1, n2⟩ := next_same OK.out.sim hp hs
  rw [n1, n2, ← HAB.out.1, ← HAB.out.2]
  clear hp hs hb4 n1 n2 C1 C2
  go_wp2
  go_ret
  exact ⟨rfl, _, _, s, T4.out, OK.out, by omega⟩
set_option maxRecDepth 100000 in
set_option maxHeartbeats 4000000 in
theorem step_4 (w0 w : World) (p q : Nat) (qv lv : Value) (s : MS) (ref tick : Int) (h : Two w0 w p q qv lv s) (ok : Ok s) (ht : s.tn ≤ 900000000000000000) :
    Calls Try.prog 27 #[.pointer (some ⟨p, 0, none⟩), .pointer (some ⟨q, 0, none⟩), .agg #[.int .i64 4, .int .i64 ref, .int .i64 tick]] w (StepPost w0 p q s) := by
  have hbx : Below w.heap.size w (w.alloc (.cells #[.int .i64 4, .int .i64 ref, .int .i64 tick] 51)) := (Below.refl _ _).alloc (Nat.le_refl _) _
  have H := Kp.mk (h.below hbx)
  have HX := Kp.mk (blk_new w (.cells #[.int .i64 4, .int .i64 ref, .int .i64 tick] 51))
  have HZ : Kp (∀ g, FW p qv g → g < w.heap.size) := ⟨fun g hg => h.wh.fwlt g hg⟩
  have OK := Kp.mk ok
  have HW0 : Kp (w0.heap.size ≤ w.heap.size) := ⟨h.bel.size⟩
  clear h ok hbx
  go_enter Try.func27, Try.ntmps27
  have f1 := blk_c HX.out 2
  have C1 := Kp.mk (due_any _ p qv s.l s.tn tick H.out.wh (by have := OK.out.len; omega))
  go_wp2_with fail
  refine C1.out.mono ?_
  rintro e w3 (⟨he, rfl, rfl⟩ | ⟨he, A, c, rfl, o3, fr3, qv3, h3, hq3, c3⟩)
  · have C2 := Kp.mk (rdue_any _ q lv s.ts tick H.out.rf (by rw [OK.out.tlen]; have := OK.out.len; omega) OK.out.sim.srt OK.out.sim.refs)
    have HE := Kp.mk he
    clear he C1
    go_wp2_with fail
    refine C2.out.mono ?_
    rintro e w4 (⟨_, rfl, rfl⟩ | ⟨he4, _⟩)
    · have RE := Kp.mk (refs_eq (w.alloc (.cells #[.int .i64 4, .int .i64 ref, .int .i64 tick] 51)) [] none none 0 0 ⟨fun _ h => (by cases h), fun _ => ⟨rfl, rfl⟩⟩ ⟨fun _ h => (by cases h), fun _ => ⟨rfl, rfl⟩⟩ (by simp))
      rw [List.length_nil] at RE
      go_wp2_with fail
      refine RE.out.mono ?_
      rintro e w5 ⟨rfl, hb5⟩
      have T5 := Kp.mk (H.out.below hb5)
      clear hb5 RE C2
      go_wp2
      go_loopw [23, 136] (fun _ iv wr => iv = .int .i64 0 ∧ Kp (Two w0 wr p q qv lv s)) (fun _ _ _ => 0)
      case atStart => exact ⟨rfl, T5⟩
      case round =>
        obtain ⟨rfl, hT⟩ := hrel
        have T6 := hT
        go_wp2
        go_ret
        exact ⟨rfl, _, _, s, T6.out, OK.out, by omega⟩
    · rw [HE.out] at he4; cases he4
  · have HE := Kp.mk he
    have R3 := Kp.mk (H.out.rf.apart H.out.wh c3)
    have B3 := Kp.mk (chg_below H.out.bel c3 H.out.fw H.out.bel.size)
    have F3 := Kp.mk (fw_eq H.out.fw hq3)
    have W3 := Kp.mk h3
    have O3 := Kp.mk o3
    have x3 := c3.at HX.out (fun hF => by have h1 := HZ.out _ hF; omega)
    have f3 := blk_c x3 2
    have l3 := lt_of_block x3
    have FR3 : Kp (Fresh w (.slice A (dueL s.l tick).1.length c)) := ⟨fr3.up (by simp)⟩
    obtain ⟨d1, d2, d3⟩ := OK.out.sim.due tick
    have SD := Kp.mk (And.intro d1 (And.intro d2 d3))
    have C2 := Kp.mk (rdue_any w3 q lv s.ts tick R3.out (by rw [OK.out.tlen]; have := OK.out.len; omega) OK.out.sim.srt OK.out.sim.refs)
    obtain ⟨X, hX⟩ : ∃ X, X = (dueL s.l tick).1 := ⟨_, rfl⟩
    obtain ⟨Y, hY⟩ : ∃ Y, Y = (dueL s.l tick).2 := ⟨_, rfl⟩
    rw [← hX, ← hY] at SD
    rw [← hX] at O3 FR3
    rw [← hY] at W3
    rw [← hX]
    have hYl : Kp (Y.length ≤ 256 ∧ X.length ≤ 256) := ⟨by have h8 := due_le _ s.l tick rfl; rw [hY, hX]; have := OK.out.len; omega⟩
    obtain ⟨nx, hnx⟩ : ∃ n, n = X.length := ⟨_, rfl⟩
    rw [← hnx] at O3 FR3 ⊢
    have HNX := Kp.mk hnx
    clear o3 fr3 h3 hq3 c3 C1 he x3 d1 d2 d3 hX hY hnx f1
    go_wp2_with fail
    refine C2.out.mono ?_
    rintro e w4 (⟨he4, _⟩ | ⟨he4, A4, c4, D, lv4, rfl, o4, fr4, p4, s4, h4, hv4, ch4⟩)
    · rw [HE.out] at he4; cases he4
    · obtain rfl : D = X := srt_eq (p4.trans SD.out.1.symm) s4 SD.out.2.1
      have O34 := Kp.mk (O3.out.rf R3.out ch4)
      have T4 : Kp (Two w0 w4 p q qv3 lv4 ⟨Y, s.ts.filter (fun e => !decide (e.dl ≤ tick)), s.tn⟩) := ⟨⟨W3.out.apart R3.out ch4, h4, F3.out, (by
        rcases hv4 with h8 | h8
        · exact fw_eq H.out.fr h8
        · exact fw_fresh H.out.fr h8 B3.out.size), chg_below B3.out ch4 H.out.fr B3.out.size⟩⟩
      have OK4 : Kp (Ok ⟨Y, s.ts.filter (fun e => !decide (e.dl ≤ tick)), s.tn⟩) := ⟨⟨SD.out.2.2, hYl.out.1, OK.out.tn0⟩⟩
      have hel : (eRef D).length = nx := by unfold eRef; rw [List.length_map, HNX.out]
      have HEL := Kp.mk hel
      have RE := Kp.mk (refs_eq w4 (eRef D) A A4 c c4 (O34.out.src rfl) (o4.src rfl) (by rw [hel]; have := hYl.out.2; have := HNX.out; omega))
      rw [hel] at RE
      rw [← HNX.out]
      clear o4 fr4 p4 s4 h4 hv4 ch4 he4 hel C2
      go_wp2_with fail
      refine RE.out.mono ?_
      rintro e w5 ⟨rfl, hb5⟩
      have T5 := Kp.mk (T4.out.below hb5)
      have O5 := Kp.mk (O34.out.below hb5)
      have hnb : nx ≤ 256 := by have h1 := HNX.out; have h2 := hYl.out.2; omega
      clear hb5 RE
      go_wp2
      go_loopw [23, 136] (fun _ iv wr => ∃ (k : Nat) (l' : List Int), k ≤ nx ∧ iv = .int .i64 k ∧ Kp (l'.length = nx) ∧ Kp (Own wr 2 eI64 (.slice A nx c) l') ∧ Kp (Two w0 wr p q qv3 lv4 ⟨Y, s.ts.filter (fun e => !decide (e.dl ≤ tick)), s.tn⟩)) (fun _ iv _ => nx - (intOf iv).toNat)
      case atStart => exact ⟨0, eRef D, Nat.zero_le _, rfl, HEL, O5, T5⟩
      case round =>
        obtain ⟨k, l', hk, rfl, hl', hO, hT⟩ := hrel
        by_cases hlt : k < nx
        · obtain ⟨g, rfl⟩ : ∃ g, A = some ⟨g, 0, none⟩ := by
            obtain ⟨A2, c2, hv2, _, _, hs0, hs1⟩ := hO.out.shape
            have ea : A = A2 := by injection hv2
            cases hA : A2 with
            | none => have h1 := (hs0 hA).1; have h2 := hl'.out; rw [h1] at h2; simp at h2; omega
            | some x => obtain ⟨g, rfl⟩ := hs1 x hA; exact ⟨g, by rw [ea, hA]⟩
          have q0 : wr.cell? ⟨g, k, none⟩ = some (.int .i64 (l'[k]'(by rw [hl'.out]; exact hlt))) := by have h1 := hO.out.elem k 0 (by rw [hl'.out]; exact hlt) (by decide); simpa [eI64] using h1
          obtain ⟨x, hx⟩ : ∃ x, x = l'[k]'(by rw [hl'.out]; exact hlt) := ⟨_, rfl⟩
          rw [← hx] at q0
          have z0 : wr.frozen? ⟨g, k, none⟩ = false := hO.out.frozen _
          have gl := hO.out.lt (g := g) rfl
          have k0 : (0 : Int) ≤ (k : Int) := by omega
          have k1 : (k : Int) < (nx : Int) := by omega
          have SET := hO.out.set hl'.out.symm k 0 99 (.int .i64 99) (by rw [hl'.out]; exact hlt) (by decide) rfl
          rw [show k * eI64.k + 0 = k from Nat.mul_one k] at SET
          have HSET := Kp.mk SET
          have T6 : Kp (Two w0 (wr.setCell ⟨g, k, none⟩ (.int .i64 99)) p q qv3 lv4 ⟨Y, s.ts.filter (fun e => !decide (e.dl ≤ tick)), s.tn⟩) := ⟨by
            have hch := chg_cell wr g k (.int .i64 99)
            have nW : ∀ x, FW p qv3 x → ¬ (x = g) := fun x hx e => by
              subst e
              rcases hx with rfl | hx
              · exact hO.out.ne hT.out.wh.blk (by decide) rfl
              · obtain ⟨cur, hcur⟩ := hT.out.wh.own.blk' hx
                exact hO.out.ne hcur (by decide) rfl
            have nR : ∀ x, FW q lv4 x → ¬ (x = g) := fun x hx e => by
              subst e
              rcases hx with rfl | hx
              · exact hO.out.ne hT.out.rf.blk (by decide) rfl
              · obtain ⟨cur, hcur⟩ := hT.out.rf.own.blk' hx
                exact hO.out.ne hcur (by decide) rfl
            exact ⟨hT.out.wh.frame hch nW, hT.out.rf.frame hch nR, hT.out.fw, hT.out.fr, chg_below hT.out.bel hch (fun x hx => by rw [hx]; have h1 := FR3.out g rfl; have h2 := HW0.out; omega) hT.out.bel.size⟩⟩
          clear hx SET
          go_wp2
          go_roundw
          case rel => exact ⟨k + 1, l'.set k 99, by omega, by go_num, ⟨by rw [List.length_set]; exact hl'.out⟩, HSET, T6⟩
          case measure => simp [intOf]; omega
        · have hd7 : decide ((k : Int) < (nx : Int)) = false := by simp; omega
          have hd6 : ¬ ((k : Int) < (nx : Int)) := by omega
          have T6 := hT
          go_wp2
          go_ret
          exact ⟨rfl, _, _, _, T6.out, OK4.out, by show s.tn ≤ s.tn + 1; omega⟩
set_option maxRecDepth 100000 in
set_option maxHeartbeats 4000000 in
theorem step_no (w0 w : World) (p q : Nat) (qv lv : Value) (s : MS) (ref tick : Int) (kd : Int) (e0 : (kd == 0) = false) (e1 : (kd == 1) = false) (e2 : (kd == 2) = false) (e3 : (kd == 3) = false) (e4 : (kd == 4) = false) (h : Two w0 w p q qv lv s) (ok : Ok s) (ht : s.tn ≤ 900000000000000000) :
    Calls Try.prog 27 #[.pointer (some ⟨p, 0, none⟩), .pointer (some ⟨q, 0, none⟩), .agg #[.int .i64 kd, .int .i64 ref, .int .i64 tick]] w (StepPost w0 p q s) := by
  have hbx : Below w.heap.size w (w.alloc (.cells #[.int .i64 kd, .int .i64 ref, .int .i64 tick] 51)) := (Below.refl _ _).alloc (Nat.le_refl _) _
  have H := Kp.mk (h.below hbx)
  have HX := Kp.mk (blk_new w (.cells #[.int .i64 kd, .int .i64 ref, .int .i64 tick] 51))
  have HZ : Kp (∀ g, FW p qv g → g < w.heap.size) := ⟨fun g hg => h.wh.fwlt g hg⟩
  have OK := Kp.mk ok
  clear h ok hbx
  go_enter Try.func27, Try.ntmps27
  go_wp2
  go_ret
  exact ⟨rfl, _, _, s, H.out, OK.out, by omega⟩
theorem step_any (w0 w : World) (p q : Nat) (qv lv : Value) (s : MS) (o : OpM) (h : Two w0 w p q qv lv s) (ok : Ok s) (ht : s.tn ≤ 900000000000000000) :
    Calls Try.prog 27 #[.pointer (some ⟨p, 0, none⟩), .pointer (some ⟨q, 0, none⟩), .agg #[.int .i64 o.kind, .int .i64 o.ref, .int .i64 o.tick]] w (StepPost w0 p q s) := by
  obtain ⟨kd, ref, tick⟩ := o
  by_cases h0 : kd = 0
  · subst h0; exact step_0 w0 w p q qv lv s ref tick h ok ht
  by_cases h1 : kd = 1
  · subst h1; exact step_1 w0 w p q qv lv s ref tick h ok ht
  by_cases h2 : kd = 2
  · subst h2; exact step_2 w0 w p q qv lv s ref tick h ok ht
  by_cases h3 : kd = 3
  · subst h3; exact step_3 w0 w p q qv lv s ref tick h ok ht
  by_cases h4 : kd = 4
  · subst h4; exact step_4 w0 w p q qv lv s ref tick h ok ht
  exact step_no w0 w p q qv lv s ref tick kd (by simpa using h0) (by simpa using h1) (by simpa using h2) (by simpa using h3) (by simpa using h4) h ok ht
end Go.Proofs.Ytobgabjoehjpcaa
