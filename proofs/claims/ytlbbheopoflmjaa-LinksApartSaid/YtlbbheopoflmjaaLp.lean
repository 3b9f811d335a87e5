/- LinksApart walked: it answers true; its bounds stand in the statement. -/
import Derived.Test.YtlbbheopoflmjaaSc
import Derived.Test.YtlbbheopoflmjaaLg
namespace Go.Proofs.Ytlbbheopoflmjaa
open Go.RowKit

theorem nb_apart {L L' : List Bd} {a b : Int} (h : ∀ x, x ≠ pairB a b → (x ∈ L' ↔ x ∈ L)) {y : Int} (ha : y ≠ a) (hb : y ≠ b) (z : Int) : Nb L' y z ↔ Nb L y z := by
  have hp : ∀ x : Bd, (x.a = y ∧ z = x.b ∨ x.b = y ∧ z = x.a) → x ≠ pairB a b := by
    rintro x hx rfl
    unfold pairB at hx
    simp only at hx
    omega
  constructor
  · rintro ⟨x, h1, h2, h3⟩; exact ⟨x, (h x (hp x h3)).1 h1, h2, h3⟩
  · rintro ⟨x, h1, h2, h3⟩; exact ⟨x, (h x (hp x h3)).2 h1, h2, h3⟩
theorem reach_apart {L L' : List Bd} {a b s : Int} (h : ∀ x, x ≠ pairB a b → (x ∈ L' ↔ x ∈ L)) (ha : ¬ Reach L s a) (hb : ¬ Reach L s b) (y : Int) : Reach L' s y ↔ Reach L s y := by
  constructor
  · intro hr
    induction hr with
    | base => exact .base
    | step _ h2 ih => exact .step ih ((nb_apart h (fun e => ha (e ▸ ih)) (fun e => hb (e ▸ ih)) _).1 h2)
  · intro hr
    induction hr with
    | base => exact .base
    | step h1 h2 ih => exact .step ih ((nb_apart h (fun e => ha (e ▸ h1)) (fun e => hb (e ▸ h1)) _).2 h2)
theorem grp_apart {L L' : List Bd} {a b s : Int} {S S' : List Int} (h : ∀ x, x ≠ pairB a b → (x ∈ L' ↔ x ∈ L)) (hS : IsGrp L s S) (ha : a ∉ S) (hb : b ∉ S) (hS' : IsGrp L' s S') : S' = S := by
  unfold IsGrp at hS hS'
  split at hS
  · rename_i h0
    rw [if_pos h0] at hS'
    exact hS'.uniq (hS.imp fun y => (reach_apart h (fun hr => ha ((hS.2 a).2 hr)) (fun hr => hb ((hS.2 b).2 hr)) y).symm)
  · rename_i h0
    rw [if_neg h0] at hS'
    rw [hS, hS']
/-- What a link or unlink of two changes: that one bond alone. -/
theorem ns_apart (ns : List NB) (last : Int) (o : OpM) (hk : o.kind = 0 ∨ o.kind = 1) : ∀ x, x ≠ pairB o.a o.b → (x ∈ sn (nsOf ns last o) ↔ x ∈ sn ns) := by
  intro x hx
  unfold nsOf
  rcases hk with hk | hk
  · rw [if_pos hk]
    split
    · unfold linkN
      rw [sn, List.map_append, List.mem_append]
      constructor
      · rintro (h | h)
        · exact h
        · exact absurd (List.mem_singleton.1 h) hx
      · exact .inl
    · exact Iff.rfl
  · rw [if_neg (by omega), if_pos hk]
    split
    · rw [mem_sn, mem_sn]
      unfold unlN
      constructor
      · rintro ⟨n, h⟩; exact ⟨n, (List.mem_filter.1 h).1⟩
      · rintro ⟨n, h⟩; exact ⟨n, List.mem_filter.2 ⟨h, by simpa [pairB] using hx⟩⟩
    · exact Iff.rfl
theorem of_pair {pid a b : Int} (ha : pid ≠ a) (hb : pid ≠ b) : isOf pid (pairB a b) = false := by
  unfold isOf pairB
  rw [decide_eq_false]
  simp only
  omega
theorem of_apart (ns : List NB) (last : Int) (o : OpM) (hk : o.kind = 0 ∨ o.kind = 1) {pid : Int} (ha : pid ≠ o.a) (hb : pid ≠ o.b) : (sn (nsOf ns last o)).filter (isOf pid) = (sn ns).filter (isOf pid) := by
  have hp := of_pair ha hb
  unfold nsOf
  rcases hk with hk | hk
  · rw [if_pos hk]
    split
    · unfold linkN
      rw [sn, List.map_append, List.filter_append]
      have : List.filter (isOf pid) (List.map (fun x : NB => x.2) [(last + 1, (⟨min o.a o.b, max o.a o.b, 0⟩ : Bd))]) = [] := by
        rw [List.filter_eq_nil_iff]
        intro x hx
        rw [List.map_cons, List.map_nil, List.mem_singleton] at hx
        rw [hx, show (⟨min o.a o.b, max o.a o.b, 0⟩ : Bd) = pairB o.a o.b from rfl, hp]
        simp
      rw [this, List.append_nil]
    · rfl
  · rw [if_neg (by omega), if_pos hk]
    split
    · unfold unlN sn
      rw [List.filter_map, List.filter_map, List.filter_filter]
      congr 1
      refine List.filter_congr fun p _ => ?_
      by_cases he : p.2 = ⟨min o.a o.b, max o.a o.b, 0⟩
      · have : isOf pid p.2 = false := by rw [he]; exact hp
        simp [Function.comp, this]
      · simp [Function.comp, he]
    · rfl
/-- A cell below both graphs is turned in the world that they were made since, too. -/
theorem Two.setX {w0 w : World} {p bm lm rm q : Nat} {lv : Value} {ns : List NB} {last : Int} {z : Nat} {cs : Array Value} {t : TypeId} (h : Two w0 w p bm lm rm q lv ns last) (h0 : w0.heap[z]? = some (.cells cs t (0, 0))) (h1 : w.heap[z]? = some (.cells cs t (0, 0))) (hz : z < w0.heap.size) (u : Value) :
    Two (w0.setCell ⟨z, 0, none⟩ u) (w.setCell ⟨z, 0, none⟩ u) p bm lm rm q lv ns last := by
  have hc : Chg (fun k => k = z) w (w.setCell ⟨z, 0, none⟩ u) := chg_cell w z 0 u
  have h2 := h.g.g.frame hc (fun k hk e => by have := h.fg k hk; omega)
  have h3 := h.d.frame hc (fun k hk e => by have := h.fd k hk; omega)
  refine ⟨⟨h2, h.g.ok⟩, h3, fun k hk => by rw [World.size_setCell]; exact h.fg k hk, fun k hk => by rw [World.size_setCell]; exact h.fd k hk, ?_⟩
  refine ⟨h.bel.os, h.bel.tape, h.bel.output, by rw [World.size_setCell, World.size_setCell]; exact h.bel.size, fun k hk => ?_⟩
  rw [World.size_setCell] at hk
  by_cases e : k = z
  · subst e; rw [blk_set h0, blk_set h1]
  · have a1 : (w.setCell ⟨z, 0, none⟩ u).heap[k]? = w.heap[k]? := Below.heap_setCell _ _ _ _ (by simpa using e)
    have a2 : (w0.setCell ⟨z, 0, none⟩ u).heap[k]? = w0.heap[k]? := Below.heap_setCell _ _ _ _ (by simpa using e)
    rw [a1, a2]; exact h.bel.block k hk
set_option maxRecDepth 100000 in
set_option maxHeartbeats 16000000 in
theorem linksApart_any (w : World) (ops : List OpM) (pid : Int) (o : OpM) (A : Option Addr) (c : Nat) (hs : Src w eOp A c ops) (hr : ∀ o ∈ ops, In64 o.ref) (ho : In64 o.ref) (hn : ops.length ≤ 9000000000000) :
    Calls Try.prog 6 #[.slice A ops.length c, .int .i64 pid, .agg #[.int .i64 o.kind, .int .i64 o.a, .int .i64 o.b, .int .i64 o.ref]] w fun e w' => e = .returned (.bool true) ∧ Below w.heap.size w w' := by
  obtain ⟨kd, oa, ob, orf⟩ := o
  have HR := Kp.mk ho
  have hbx : Below w.heap.size w (w.alloc (.cells #[.int .i64 kd, .int .i64 oa, .int .i64 ob, .int .i64 orf] 23)) := (Below.refl _ _).alloc (Nat.le_refl _) _
  have HBX := Kp.mk hbx
  have HX := Kp.mk (blk_new w (.cells #[.int .i64 kd, .int .i64 oa, .int .i64 ob, .int .i64 orf] 23))
  obtain ⟨wx, hwx⟩ : ∃ wx, wx = w.alloc (.cells #[.int .i64 kd, .int .i64 oa, .int .i64 ob, .int .i64 orf] 23) := ⟨_, rfl⟩
  have LA := Kp.mk (laid_any wx ops A c (hs.below (by rw [hwx]; exact hbx)) hr hn)
  have hwsz : wx.heap.size = w.heap.size + 1 := by rw [hwx]; simp
  have HSZ := Kp.mk hwsz
  have HWX := Kp.mk hwx
  clear hs hr ho hbx hwx hwsz
  go_enter Try.func6, Try.ntmps6
  go_wp2_with fail
  rw [← HWX.out]
  refine LA.out.mono ?_
  rintro e w1 ⟨p, bm, lm, rm, q, lv, ns, last, rfl, hT, hl⟩
  have T1 := Kp.mk hT
  have HL : Kp (last ≤ 900000000000000000) := ⟨by omega⟩
  have HL2 : Kp (last ≤ 800000000000000000) := ⟨by omega⟩
  have HN := Kp.mk hT.g.ok.n1024
  clear hT hl LA
  go_wp2_with fail
  refine (group_any T1.out.g HL.out pid).mono ?_
  rintro e w2 ⟨v2, Sa, rfl, ho2, hf2, hb2, hg2⟩
  obtain ⟨A2, c2, hv2, _⟩ := ho2.shape
  subst hv2
  have GA : Kp (IsGrp (sn ns) pid Sa) := ⟨hg2⟩
  have T2 := Kp.mk (T1.out.below hb2)
  have hna := uni_mem Sa pid hg2
  obtain ⟨na, hna2⟩ : ∃ na, na = Sa.length := ⟨_, rfl⟩
  have hab : na ≤ 2049 := by have := HN.out; omega
  rw [← hna2] at ho2 hf2 ⊢
  have HNA := Kp.mk hna2
  have O2 := Kp.mk ho2
  have F2 := Kp.mk hf2
  have hx2 : w2.heap[w.heap.size]? = some (.cells #[.int .i64 kd, .int .i64 oa, .int .i64 ob, .int .i64 orf] 23 (0, 0)) := by
    have h1 := HX.out
    rw [← HWX.out] at h1
    exact (T2.out.bel.block _ (lt_of_block h1)).trans h1
  have HX2 := Kp.mk hx2
  have xk := blk_c hx2 0
  have fk := blk_f hx2 0
  have xl2 := lt_of_block hx2
  have hxx : Kp (wx.heap[w.heap.size]? = some (.cells #[.int .i64 kd, .int .i64 oa, .int .i64 ob, .int .i64 orf] 23 (0, 0))) := ⟨by have h1 := HX.out; rw [← HWX.out] at h1; exact h1⟩
  have BX0 : Kp (Below w.heap.size w wx) := ⟨by rw [HWX.out]; exact HBX.out⟩
  clear ho2 hf2 hb2 hg2 hna hna2 hx2
  by_cases h0 : kd < 0
  · have d0 : decide (kd < 0) = true := by simpa using h0
    clear h0
    go_upto_region 7 with fail
    obtain ⟨w3, hw3⟩ : ∃ w3, w3 = w2.setCell ⟨w.heap.size, 0, none⟩ (.int .i64 0) := ⟨_, rfl⟩
    obtain ⟨wy, hwy⟩ : ∃ wy, wy = wx.setCell ⟨w.heap.size, 0, none⟩ (.int .i64 0) := ⟨_, rfl⟩
    rw [← hw3]
    have hY : Kp (wy.heap[w.heap.size]? = some (.cells #[.int .i64 0, .int .i64 oa, .int .i64 ob, .int .i64 orf] 23 (0, 0))) := ⟨by rw [hwy]; exact by rw [blk_set hxx.out]; rfl⟩
    have hYs : Kp (wy.heap.size = w.heap.size + 1) := ⟨by rw [hwy]; rw [World.size_setCell]; exact HSZ.out⟩
    have BY : Kp (Below w.heap.size w wy) := ⟨by rw [hwy]; exact BX0.out.setCell (p := ⟨w.heap.size, 0, none⟩) (Nat.le_refl _) _⟩
    have T3 : Kp (Two wy w3 p bm lm rm q lv ns last) := ⟨by rw [hw3, hwy]; exact T2.out.setX hxx.out HX2.out (by rw [HSZ.out]; omega) _⟩
    have O3 : Kp (Own w3 2 eI64 (.slice A2 na c2) Sa) := ⟨by rw [hw3]; exact O2.out.set_ne (O2.out.ne HX2.out (by decide)) _⟩
    clear hw3 hwy xk fk xl2
    go_wp2_with fail
    have hbox : ∀ W, Below wy.heap.size wy W → W.heap[w.heap.size]? = some (.cells #[.int .i64 0, .int .i64 oa, .int .i64 ob, .int .i64 orf] 23 (0, 0)) := fun W hb => (hb.block _ (lt_of_block hY.out)).trans hY.out
    have HBO := Kp.mk hbox
    have y3 := hbox w3 T3.out.bel
    have y31 := blk_c y3 1
    have y32 := blk_c y3 2
    have y3l := lt_of_block y3
    clear hbox y3
    go_loop [11, 34] (fun _ i => ∃ (k : Nat), k ≤ na ∧ i = .int .i64 k ∧ Kp (∀ j (hj : j < Sa.length), j < k → Sa[j] ≠ oa ∧ Sa[j] ≠ ob)) (fun _ i => na - (intOf i).toNat)
    case atStart => exact ⟨0, Nat.zero_le _, rfl, ⟨fun j hj h => absurd h (Nat.not_lt_zero _)⟩⟩
    case round =>
      obtain ⟨k, hk, rfl, HJ⟩ := hrel
      by_cases hlt : k < na
      · obtain ⟨A9, c9, hv9, _, _, h0, h1⟩ := O3.out.shape
        obtain ⟨g, rfl⟩ : ∃ g, A2 = some ⟨g, 0, none⟩ := by
          injection hv9 with e1 _ _
          subst e1
          cases A2 with
          | none => have := (h0 rfl).1; have h2 := HNA.out; rw [this] at h2; simp at h2; omega
          | some y => obtain ⟨g, rfl⟩ := h1 y rfl; exact ⟨g, rfl⟩
        clear hv9 h0 h1
        have hkt : k < Sa.length := by have := HNA.out; omega
        have hcx : w3.cell? ⟨g, k, none⟩ = some (.int .i64 Sa[k]) := by
          have h1 := O3.out.elem k 0 hkt (by decide); simpa [eI64] using h1
        obtain ⟨x, hxe⟩ : ∃ x, x = Sa[k] := ⟨_, rfl⟩
        rw [← hxe] at hcx
        have HXE : Kp (∀ h : k < Sa.length, Sa[k] = x) := ⟨fun _ => hxe.symm⟩
        have k0 : (0 : Int) ≤ (k : Int) := by omega
        have k1 : (k : Int) < (na : Int) := by omega
        clear hxe hkt
        by_cases hA : x = oa
        · have hd : (x == oa) = true := by simpa using hA
          clear hA
          go_wp2_with (go_at_call 16; refine (awake_any _).mono ?_; rintro e w9 ⟨rfl, hb9⟩; have B9 := Kp.mk hb9; clear hb9)
          go_ret
          have hb := bstep T3.out.bel T3.out.bel.size B9.out
          exact ⟨rfl, bstep BY.out BY.out.size hb⟩
        · have hd : (x == oa) = false := by simpa using hA
          by_cases hB : x = ob
          · have hd2 : (x == ob) = true := by simpa using hB
            clear hA hB
            go_wp2_with (go_at_call 16; refine (awake_any _).mono ?_; rintro e w9 ⟨rfl, hb9⟩; have B9 := Kp.mk hb9; clear hb9)
            go_ret
            have hb := bstep T3.out.bel T3.out.bel.size B9.out
            exact ⟨rfl, bstep BY.out BY.out.size hb⟩
          · have hd2 : (x == ob) = false := by simpa using hB
            have HJ2 : Kp (∀ j (hj : j < Sa.length), j < k + 1 → Sa[j] ≠ oa ∧ Sa[j] ≠ ob) := ⟨fun j hj h => by
              by_cases hjk : j = k
              · subst hjk; rw [HXE.out hj]; exact ⟨hA, hB⟩
              · exact HJ.out j hj (by omega)⟩
            clear hA hB
            go_wp2
            go_round
            case rel => exact ⟨k + 1, by omega, by go_num, HJ2⟩
            case measure => simp [intOf]; omega
      · obtain rfl : k = na := by omega
        have hnA : oa ∉ Sa := fun hm => by
          obtain ⟨j, hj, e⟩ := List.mem_iff_getElem.1 hm
          exact (HJ.out j hj (by rw [HNA.out]; exact hj)).1 e
        have hnB : ob ∉ Sa := fun hm => by
          obtain ⟨j, hj, e⟩ := List.mem_iff_getElem.1 hm
          exact (HJ.out j hj (by rw [HNA.out]; exact hj)).2 e
        have HAP : Kp (∀ S', IsGrp (sn (nsOf ns last ⟨0, oa, ob, orf⟩)) pid S' → S' = Sa) := ⟨fun S' hS' => grp_apart (ns_apart ns last ⟨0, oa, ob, orf⟩ (.inl rfl)) GA.out hnA hnB hS'⟩
        clear hnA hnB y31 y32 y3l
        go_wp2_with fail
        refine (dof_any _ q lv (sn ns) pid T3.out.d (by have := HN.out; omega)).mono ?_
        rintro e w4 ⟨v4, rfl, o4, f4, b4⟩
        obtain ⟨A4, c4, hv4, _⟩ := o4.shape
        subst hv4
        have T4 := Kp.mk (T3.out.below b4)
        have O34 := Kp.mk (O3.out.below b4)
        have O4 := Kp.mk o4
        have F4 := Kp.mk f4
        have y4 := HBO.out w4 T4.out.bel
        have y40 := blk_c y4 0
        have y41 := blk_c y4 1
        have y42 := blk_c y4 2
        have y43 := blk_c y4 3
        have y4l := lt_of_block y4
        have STP := Kp.mk (stepc_0 sortC wy w4 p bm lm rm q lv ns last oa ob orf T4.out HL.out HR.out)
        clear o4 f4 b4 y4
        obtain ⟨F, hF⟩ : ∃ F, F = (sn ns).filter (isOf pid) := ⟨_, rfl⟩
        have HFl : Kp (F.length ≤ 1024) := ⟨by rw [hF]; have := List.length_filter_le (isOf pid) (sn ns); have := HN.out; omega⟩
        have HFF := Kp.mk hF
        rw [← hF] at O4 F4 ⊢
        clear hF
        go_wp2_with (go_at_call 13; refine STP.out.mono ?_; rintro e w5 ⟨⟨rfl, lv5, h5⟩, c5⟩; have T5 := Kp.mk h5; have O35 : Kp (Own w5 2 eI64 (.slice A2 k c2) Sa) := ⟨O34.out.frame c5 (fun g hg hF => by have h1 := F2.out g hg; rcases hF with hF | hF; have := T1.out.g.g.lt g hF; omega; (rcases hF with rfl | hF; have := T1.out.d.lt; omega; have := T1.out.d.own.lt hF; omega))⟩; have O45 : Kp (Own w5 48 eBd (.slice A4 F.length c4) F) := ⟨O4.out.frame c5 (fun g hg hF => by have h1 := F4.out g hg; rcases hF with hF | hF; have := T3.out.g.g.lt g hF; omega; (rcases hF with rfl | hF; have := T3.out.d.lt; omega; have := T3.out.d.own.lt hF; omega))⟩; have y5 := HBO.out w5 h5.bel; have y51 := blk_c y5 1; have y52 := blk_c y5 2; have y5l := lt_of_block y5; clear y40 y41 y42 y43 y4l h5 c5 y5)
        have HLL : Kp (lastOf ns last ⟨0, oa, ob, orf⟩ ≤ 900000000000000000) := ⟨by have := (lastOf_le ns last ⟨0, oa, ob, orf⟩).1; have := HL2.out; omega⟩
        have HOF := Kp.mk (fun (h1 : pid ≠ oa) (h2 : pid ≠ ob) => of_apart ns last ⟨0, oa, ob, orf⟩ (.inl rfl) h1 h2)
        go_wp2_with fail
        refine (group_any T5.out.g HLL.out pid).mono ?_
        rintro e w6 ⟨v6, S6, rfl, o6, f6, b6, g6⟩
        obtain rfl : S6 = Sa := HAP.out S6 g6
        obtain ⟨A6, c6, hv6, _⟩ := o6.shape
        subst hv6
        have O6 := Kp.mk o6
        have O36 := Kp.mk (O35.out.below b6)
        have O46 := Kp.mk (O45.out.below b6)
        have T6 := Kp.mk (T5.out.below b6)
        rw [← HNA.out]
        clear o6 f6 b6 g6 y51 y52 y5l
        go_wp2_with fail
        have hpq := pids_eq w6 S6 A6 A2 c6 c2 (O6.out.src rfl) (by have := O36.out; rw [HNA.out] at this; exact this.src rfl) (by rw [← HNA.out]; omega)
        rw [← HNA.out] at hpq
        refine hpq.mono ?_
        rintro e w7 ⟨rfl, b7⟩
        have T7 := Kp.mk (T6.out.below b7)
        have O47 := Kp.mk (O46.out.below b7)
        have y7 := HBO.out w7 T7.out.bel
        have y71 := blk_c y7 1
        have y72 := blk_c y7 2
        have y7l := lt_of_block y7
        clear b7 hpq y7
        by_cases hA : pid = oa
        · have hd : (pid == oa) = true := by simpa using hA
          clear hA
          go_wp2_with (go_at_call 16; refine (awake_any _).mono ?_; rintro e w9 ⟨rfl, hb9⟩; have B9 := Kp.mk hb9; clear hb9)
          go_ret
          have hb := bstep T7.out.bel T7.out.bel.size B9.out
          exact ⟨rfl, bstep BY.out BY.out.size hb⟩
        · have hd : (pid == oa) = false := by simpa using hA
          by_cases hB : pid = ob
          · have hd2 : (pid == ob) = true := by simpa using hB
            clear hA hB
            go_wp2_with (go_at_call 16; refine (awake_any _).mono ?_; rintro e w9 ⟨rfl, hb9⟩; have B9 := Kp.mk hb9; clear hb9)
            go_ret
            have hb := bstep T7.out.bel T7.out.bel.size B9.out
            exact ⟨rfl, bstep BY.out BY.out.size hb⟩
          · have hd2 : (pid == ob) = false := by simpa using hB
            have hof := HOF.out hA hB
            rw [← HFF.out] at hof
            have OF := Kp.mk (of_all T7.out.g HLL.out pid)
            rw [hof] at OF
            clear hA hB hof
            go_wp2_with (first
              | (go_at_call 21; refine OF.out.mono ?_; rintro e w8 ⟨v8, rfl, o8, f8, b8⟩; obtain ⟨A8, c8, hv8, _⟩ := o8.shape; subst hv8; have O8 := Kp.mk o8; have B8 := Kp.mk b8; have O48 := Kp.mk (O47.out.below b8); clear o8 f8 b8)
              | (go_at_call 14; refine (bonds_eq _ F A8 A4 c8 c4 (O8.out.src rfl) (O48.out.src rfl) (by have := HFl.out; omega)).mono ?_; rintro e wa ⟨rfl, ba⟩; have BA := Kp.mk (bstep B8.out B8.out.size ba); clear ba)
              | (go_at_call 16; refine (awake_any _).mono ?_; rintro e w9 ⟨rfl, hb9⟩; have B9 := Kp.mk (bstep BA.out BA.out.size hb9); clear hb9))
            go_ret
            have hb := bstep T7.out.bel T7.out.bel.size B9.out
            exact ⟨rfl, bstep BY.out BY.out.size hb⟩
  · have d0 : decide (kd < 0) = false := by simpa using h0
    by_cases h1 : 1 < kd
    · have d1 : decide (kd > 1) = true := by simpa using h1
      clear h0 h1
      go_upto_region 7 with fail
      obtain ⟨w3, hw3⟩ : ∃ w3, w3 = w2.setCell ⟨w.heap.size, 0, none⟩ (.int .i64 0) := ⟨_, rfl⟩
      obtain ⟨wy, hwy⟩ : ∃ wy, wy = wx.setCell ⟨w.heap.size, 0, none⟩ (.int .i64 0) := ⟨_, rfl⟩
      rw [← hw3]
      have hY : Kp (wy.heap[w.heap.size]? = some (.cells #[.int .i64 0, .int .i64 oa, .int .i64 ob, .int .i64 orf] 23 (0, 0))) := ⟨by rw [hwy]; exact by rw [blk_set hxx.out]; rfl⟩
      have hYs : Kp (wy.heap.size = w.heap.size + 1) := ⟨by rw [hwy]; rw [World.size_setCell]; exact HSZ.out⟩
      have BY : Kp (Below w.heap.size w wy) := ⟨by rw [hwy]; exact BX0.out.setCell (p := ⟨w.heap.size, 0, none⟩) (Nat.le_refl _) _⟩
      have T3 : Kp (Two wy w3 p bm lm rm q lv ns last) := ⟨by rw [hw3, hwy]; exact T2.out.setX hxx.out HX2.out (by rw [HSZ.out]; omega) _⟩
      have O3 : Kp (Own w3 2 eI64 (.slice A2 na c2) Sa) := ⟨by rw [hw3]; exact O2.out.set_ne (O2.out.ne HX2.out (by decide)) _⟩
      clear hw3 hwy xk fk xl2
      go_wp2_with fail
      have hbox : ∀ W, Below wy.heap.size wy W → W.heap[w.heap.size]? = some (.cells #[.int .i64 0, .int .i64 oa, .int .i64 ob, .int .i64 orf] 23 (0, 0)) := fun W hb => (hb.block _ (lt_of_block hY.out)).trans hY.out
      have HBO := Kp.mk hbox
      have y3 := hbox w3 T3.out.bel
      have y31 := blk_c y3 1
      have y32 := blk_c y3 2
      have y3l := lt_of_block y3
      clear hbox y3
      go_loop [11, 34] (fun _ i => ∃ (k : Nat), k ≤ na ∧ i = .int .i64 k ∧ Kp (∀ j (hj : j < Sa.length), j < k → Sa[j] ≠ oa ∧ Sa[j] ≠ ob)) (fun _ i => na - (intOf i).toNat)
      case atStart => exact ⟨0, Nat.zero_le _, rfl, ⟨fun j hj h => absurd h (Nat.not_lt_zero _)⟩⟩
      case round =>
        obtain ⟨k, hk, rfl, HJ⟩ := hrel
        by_cases hlt : k < na
        · obtain ⟨A9, c9, hv9, _, _, h0, h1⟩ := O3.out.shape
          obtain ⟨g, rfl⟩ : ∃ g, A2 = some ⟨g, 0, none⟩ := by
            injection hv9 with e1 _ _
            subst e1
            cases A2 with
            | none => have := (h0 rfl).1; have h2 := HNA.out; rw [this] at h2; simp at h2; omega
            | some y => obtain ⟨g, rfl⟩ := h1 y rfl; exact ⟨g, rfl⟩
          clear hv9 h0 h1
          have hkt : k < Sa.length := by have := HNA.out; omega
          have hcx : w3.cell? ⟨g, k, none⟩ = some (.int .i64 Sa[k]) := by
            have h1 := O3.out.elem k 0 hkt (by decide); simpa [eI64] using h1
          obtain ⟨x, hxe⟩ : ∃ x, x = Sa[k] := ⟨_, rfl⟩
          rw [← hxe] at hcx
          have HXE : Kp (∀ h : k < Sa.length, Sa[k] = x) := ⟨fun _ => hxe.symm⟩
          have k0 : (0 : Int) ≤ (k : Int) := by omega
          have k1 : (k : Int) < (na : Int) := by omega
          clear hxe hkt
          by_cases hA : x = oa
          · have hd : (x == oa) = true := by simpa using hA
            clear hA
            go_wp2_with (go_at_call 16; refine (awake_any _).mono ?_; rintro e w9 ⟨rfl, hb9⟩; have B9 := Kp.mk hb9; clear hb9)
            go_ret
            have hb := bstep T3.out.bel T3.out.bel.size B9.out
            exact ⟨rfl, bstep BY.out BY.out.size hb⟩
          · have hd : (x == oa) = false := by simpa using hA
            by_cases hB : x = ob
            · have hd2 : (x == ob) = true := by simpa using hB
              clear hA hB
              go_wp2_with (go_at_call 16; refine (awake_any _).mono ?_; rintro e w9 ⟨rfl, hb9⟩; have B9 := Kp.mk hb9; clear hb9)
              go_ret
              have hb := bstep T3.out.bel T3.out.bel.size B9.out
              exact ⟨rfl, bstep BY.out BY.out.size hb⟩
            · have hd2 : (x == ob) = false := by simpa using hB
              have HJ2 : Kp (∀ j (hj : j < Sa.length), j < k + 1 → Sa[j] ≠ oa ∧ Sa[j] ≠ ob) := ⟨fun j hj h => by
                by_cases hjk : j = k
                · subst hjk; rw [HXE.out hj]; exact ⟨hA, hB⟩
                · exact HJ.out j hj (by omega)⟩
              clear hA hB
              go_wp2
              go_round
              case rel => exact ⟨k + 1, by omega, by go_num, HJ2⟩
              case measure => simp [intOf]; omega
        · obtain rfl : k = na := by omega
          have hnA : oa ∉ Sa := fun hm => by
            obtain ⟨j, hj, e⟩ := List.mem_iff_getElem.1 hm
            exact (HJ.out j hj (by rw [HNA.out]; exact hj)).1 e
          have hnB : ob ∉ Sa := fun hm => by
            obtain ⟨j, hj, e⟩ := List.mem_iff_getElem.1 hm
            exact (HJ.out j hj (by rw [HNA.out]; exact hj)).2 e
          have HAP : Kp (∀ S', IsGrp (sn (nsOf ns last ⟨0, oa, ob, orf⟩)) pid S' → S' = Sa) := ⟨fun S' hS' => grp_apart (ns_apart ns last ⟨0, oa, ob, orf⟩ (.inl rfl)) GA.out hnA hnB hS'⟩
          clear hnA hnB y31 y32 y3l
          go_wp2_with fail
          refine (dof_any _ q lv (sn ns) pid T3.out.d (by have := HN.out; omega)).mono ?_
          rintro e w4 ⟨v4, rfl, o4, f4, b4⟩
          obtain ⟨A4, c4, hv4, _⟩ := o4.shape
          subst hv4
          have T4 := Kp.mk (T3.out.below b4)
          have O34 := Kp.mk (O3.out.below b4)
          have O4 := Kp.mk o4
          have F4 := Kp.mk f4
          have y4 := HBO.out w4 T4.out.bel
          have y40 := blk_c y4 0
          have y41 := blk_c y4 1
          have y42 := blk_c y4 2
          have y43 := blk_c y4 3
          have y4l := lt_of_block y4
          have STP := Kp.mk (stepc_0 sortC wy w4 p bm lm rm q lv ns last oa ob orf T4.out HL.out HR.out)
          clear o4 f4 b4 y4
          obtain ⟨F, hF⟩ : ∃ F, F = (sn ns).filter (isOf pid) := ⟨_, rfl⟩
          have HFl : Kp (F.length ≤ 1024) := ⟨by rw [hF]; have := List.length_filter_le (isOf pid) (sn ns); have := HN.out; omega⟩
          have HFF := Kp.mk hF
          rw [← hF] at O4 F4 ⊢
          clear hF
          go_wp2_with (go_at_call 13; refine STP.out.mono ?_; rintro e w5 ⟨⟨rfl, lv5, h5⟩, c5⟩; have T5 := Kp.mk h5; have O35 : Kp (Own w5 2 eI64 (.slice A2 k c2) Sa) := ⟨O34.out.frame c5 (fun g hg hF => by have h1 := F2.out g hg; rcases hF with hF | hF; have := T1.out.g.g.lt g hF; omega; (rcases hF with rfl | hF; have := T1.out.d.lt; omega; have := T1.out.d.own.lt hF; omega))⟩; have O45 : Kp (Own w5 48 eBd (.slice A4 F.length c4) F) := ⟨O4.out.frame c5 (fun g hg hF => by have h1 := F4.out g hg; rcases hF with hF | hF; have := T3.out.g.g.lt g hF; omega; (rcases hF with rfl | hF; have := T3.out.d.lt; omega; have := T3.out.d.own.lt hF; omega))⟩; have y5 := HBO.out w5 h5.bel; have y51 := blk_c y5 1; have y52 := blk_c y5 2; have y5l := lt_of_block y5; clear y40 y41 y42 y43 y4l h5 c5 y5)
          have HLL : Kp (lastOf ns last ⟨0, oa, ob, orf⟩ ≤ 900000000000000000) := ⟨by have := (lastOf_le ns last ⟨0, oa, ob, orf⟩).1; have := HL2.out; omega⟩
          have HOF := Kp.mk (fun (h1 : pid ≠ oa) (h2 : pid ≠ ob) => of_apart ns last ⟨0, oa, ob, orf⟩ (.inl rfl) h1 h2)
          go_wp2_with fail
          refine (group_any T5.out.g HLL.out pid).mono ?_
          rintro e w6 ⟨v6, S6, rfl, o6, f6, b6, g6⟩
          obtain rfl : S6 = Sa := HAP.out S6 g6
          obtain ⟨A6, c6, hv6, _⟩ := o6.shape
          subst hv6
          have O6 := Kp.mk o6
          have O36 := Kp.mk (O35.out.below b6)
          have O46 := Kp.mk (O45.out.below b6)
          have T6 := Kp.mk (T5.out.below b6)
          rw [← HNA.out]
          clear o6 f6 b6 g6 y51 y52 y5l
          go_wp2_with fail
          have hpq := pids_eq w6 S6 A6 A2 c6 c2 (O6.out.src rfl) (by have := O36.out; rw [HNA.out] at this; exact this.src rfl) (by rw [← HNA.out]; omega)
          rw [← HNA.out] at hpq
          refine hpq.mono ?_
          rintro e w7 ⟨rfl, b7⟩
          have T7 := Kp.mk (T6.out.below b7)
          have O47 := Kp.mk (O46.out.below b7)
          have y7 := HBO.out w7 T7.out.bel
          have y71 := blk_c y7 1
          have y72 := blk_c y7 2
          have y7l := lt_of_block y7
          clear b7 hpq y7
          by_cases hA : pid = oa
          · have hd : (pid == oa) = true := by simpa using hA
            clear hA
            go_wp2_with (go_at_call 16; refine (awake_any _).mono ?_; rintro e w9 ⟨rfl, hb9⟩; have B9 := Kp.mk hb9; clear hb9)
            go_ret
            have hb := bstep T7.out.bel T7.out.bel.size B9.out
            exact ⟨rfl, bstep BY.out BY.out.size hb⟩
          · have hd : (pid == oa) = false := by simpa using hA
            by_cases hB : pid = ob
            · have hd2 : (pid == ob) = true := by simpa using hB
              clear hA hB
              go_wp2_with (go_at_call 16; refine (awake_any _).mono ?_; rintro e w9 ⟨rfl, hb9⟩; have B9 := Kp.mk hb9; clear hb9)
              go_ret
              have hb := bstep T7.out.bel T7.out.bel.size B9.out
              exact ⟨rfl, bstep BY.out BY.out.size hb⟩
            · have hd2 : (pid == ob) = false := by simpa using hB
              have hof := HOF.out hA hB
              rw [← HFF.out] at hof
              have OF := Kp.mk (of_all T7.out.g HLL.out pid)
              rw [hof] at OF
              clear hA hB hof
              go_wp2_with (first
                | (go_at_call 21; refine OF.out.mono ?_; rintro e w8 ⟨v8, rfl, o8, f8, b8⟩; obtain ⟨A8, c8, hv8, _⟩ := o8.shape; subst hv8; have O8 := Kp.mk o8; have B8 := Kp.mk b8; have O48 := Kp.mk (O47.out.below b8); clear o8 f8 b8)
                | (go_at_call 14; refine (bonds_eq _ F A8 A4 c8 c4 (O8.out.src rfl) (O48.out.src rfl) (by have := HFl.out; omega)).mono ?_; rintro e wa ⟨rfl, ba⟩; have BA := Kp.mk (bstep B8.out B8.out.size ba); clear ba)
                | (go_at_call 16; refine (awake_any _).mono ?_; rintro e w9 ⟨rfl, hb9⟩; have B9 := Kp.mk (bstep BA.out BA.out.size hb9); clear hb9))
              go_ret
              have hb := bstep T7.out.bel T7.out.bel.size B9.out
              exact ⟨rfl, bstep BY.out BY.out.size hb⟩
    · have d1 : decide (kd > 1) = false := by simpa using h1
      have h2 : kd = 0 ∨ kd = 1 := by omega
      clear h0 h1
      rcases h2 with rfl | rfl
      · skip
        go_upto_region 7 with fail
        obtain ⟨w3, hw3⟩ : ∃ w3, w3 = w2 := ⟨_, rfl⟩
        obtain ⟨wy, hwy⟩ : ∃ wy, wy = wx := ⟨_, rfl⟩
        rw [← hw3]
        have hY : Kp (wy.heap[w.heap.size]? = some (.cells #[.int .i64 0, .int .i64 oa, .int .i64 ob, .int .i64 orf] 23 (0, 0))) := ⟨by rw [hwy]; exact hxx.out⟩
        have hYs : Kp (wy.heap.size = w.heap.size + 1) := ⟨by rw [hwy]; exact HSZ.out⟩
        have BY : Kp (Below w.heap.size w wy) := ⟨by rw [hwy]; exact BX0.out⟩
        have T3 : Kp (Two wy w3 p bm lm rm q lv ns last) := ⟨by rw [hw3, hwy]; exact T2.out⟩
        have O3 : Kp (Own w3 2 eI64 (.slice A2 na c2) Sa) := ⟨by rw [hw3]; exact O2.out⟩
        clear hw3 hwy xk fk xl2
        go_wp2_with fail
        have hbox : ∀ W, Below wy.heap.size wy W → W.heap[w.heap.size]? = some (.cells #[.int .i64 0, .int .i64 oa, .int .i64 ob, .int .i64 orf] 23 (0, 0)) := fun W hb => (hb.block _ (lt_of_block hY.out)).trans hY.out
        have HBO := Kp.mk hbox
        have y3 := hbox w3 T3.out.bel
        have y31 := blk_c y3 1
        have y32 := blk_c y3 2
        have y3l := lt_of_block y3
        clear hbox y3
        go_loop [11, 34] (fun _ i => ∃ (k : Nat), k ≤ na ∧ i = .int .i64 k ∧ Kp (∀ j (hj : j < Sa.length), j < k → Sa[j] ≠ oa ∧ Sa[j] ≠ ob)) (fun _ i => na - (intOf i).toNat)
        case atStart => exact ⟨0, Nat.zero_le _, rfl, ⟨fun j hj h => absurd h (Nat.not_lt_zero _)⟩⟩
        case round =>
          obtain ⟨k, hk, rfl, HJ⟩ := hrel
          by_cases hlt : k < na
          · obtain ⟨A9, c9, hv9, _, _, h0, h1⟩ := O3.out.shape
            obtain ⟨g, rfl⟩ : ∃ g, A2 = some ⟨g, 0, none⟩ := by
              injection hv9 with e1 _ _
              subst e1
              cases A2 with
              | none => have := (h0 rfl).1; have h2 := HNA.out; rw [this] at h2; simp at h2; omega
              | some y => obtain ⟨g, rfl⟩ := h1 y rfl; exact ⟨g, rfl⟩
            clear hv9 h0 h1
            have hkt : k < Sa.length := by have := HNA.out; omega
            have hcx : w3.cell? ⟨g, k, none⟩ = some (.int .i64 Sa[k]) := by
              have h1 := O3.out.elem k 0 hkt (by decide); simpa [eI64] using h1
            obtain ⟨x, hxe⟩ : ∃ x, x = Sa[k] := ⟨_, rfl⟩
            rw [← hxe] at hcx
            have HXE : Kp (∀ h : k < Sa.length, Sa[k] = x) := ⟨fun _ => hxe.symm⟩
            have k0 : (0 : Int) ≤ (k : Int) := by omega
            have k1 : (k : Int) < (na : Int) := by omega
            clear hxe hkt
            by_cases hA : x = oa
            · have hd : (x == oa) = true := by simpa using hA
              clear hA
              go_wp2_with (go_at_call 16; refine (awake_any _).mono ?_; rintro e w9 ⟨rfl, hb9⟩; have B9 := Kp.mk hb9; clear hb9)
              go_ret
              have hb := bstep T3.out.bel T3.out.bel.size B9.out
              exact ⟨rfl, bstep BY.out BY.out.size hb⟩
            · have hd : (x == oa) = false := by simpa using hA
              by_cases hB : x = ob
              · have hd2 : (x == ob) = true := by simpa using hB
                clear hA hB
                go_wp2_with (go_at_call 16; refine (awake_any _).mono ?_; rintro e w9 ⟨rfl, hb9⟩; have B9 := Kp.mk hb9; clear hb9)
                go_ret
                have hb := bstep T3.out.bel T3.out.bel.size B9.out
                exact ⟨rfl, bstep BY.out BY.out.size hb⟩
              · have hd2 : (x == ob) = false := by simpa using hB
                have HJ2 : Kp (∀ j (hj : j < Sa.length), j < k + 1 → Sa[j] ≠ oa ∧ Sa[j] ≠ ob) := ⟨fun j hj h => by
                  by_cases hjk : j = k
                  · subst hjk; rw [HXE.out hj]; exact ⟨hA, hB⟩
                  · exact HJ.out j hj (by omega)⟩
                clear hA hB
                go_wp2
                go_round
                case rel => exact ⟨k + 1, by omega, by go_num, HJ2⟩
                case measure => simp [intOf]; omega
          · obtain rfl : k = na := by omega
            have hnA : oa ∉ Sa := fun hm => by
              obtain ⟨j, hj, e⟩ := List.mem_iff_getElem.1 hm
              exact (HJ.out j hj (by rw [HNA.out]; exact hj)).1 e
            have hnB : ob ∉ Sa := fun hm => by
              obtain ⟨j, hj, e⟩ := List.mem_iff_getElem.1 hm
              exact (HJ.out j hj (by rw [HNA.out]; exact hj)).2 e
            have HAP : Kp (∀ S', IsGrp (sn (nsOf ns last ⟨0, oa, ob, orf⟩)) pid S' → S' = Sa) := ⟨fun S' hS' => grp_apart (ns_apart ns last ⟨0, oa, ob, orf⟩ (.inl rfl)) GA.out hnA hnB hS'⟩
            clear hnA hnB y31 y32 y3l
            go_wp2_with fail
            refine (dof_any _ q lv (sn ns) pid T3.out.d (by have := HN.out; omega)).mono ?_
            rintro e w4 ⟨v4, rfl, o4, f4, b4⟩
            obtain ⟨A4, c4, hv4, _⟩ := o4.shape
            subst hv4
            have T4 := Kp.mk (T3.out.below b4)
            have O34 := Kp.mk (O3.out.below b4)
            have O4 := Kp.mk o4
            have F4 := Kp.mk f4
            have y4 := HBO.out w4 T4.out.bel
            have y40 := blk_c y4 0
            have y41 := blk_c y4 1
            have y42 := blk_c y4 2
            have y43 := blk_c y4 3
            have y4l := lt_of_block y4
            have STP := Kp.mk (stepc_0 sortC wy w4 p bm lm rm q lv ns last oa ob orf T4.out HL.out HR.out)
            clear o4 f4 b4 y4
            obtain ⟨F, hF⟩ : ∃ F, F = (sn ns).filter (isOf pid) := ⟨_, rfl⟩
            have HFl : Kp (F.length ≤ 1024) := ⟨by rw [hF]; have := List.length_filter_le (isOf pid) (sn ns); have := HN.out; omega⟩
            have HFF := Kp.mk hF
            rw [← hF] at O4 F4 ⊢
            clear hF
            go_wp2_with (go_at_call 13; refine STP.out.mono ?_; rintro e w5 ⟨⟨rfl, lv5, h5⟩, c5⟩; have T5 := Kp.mk h5; have O35 : Kp (Own w5 2 eI64 (.slice A2 k c2) Sa) := ⟨O34.out.frame c5 (fun g hg hF => by have h1 := F2.out g hg; rcases hF with hF | hF; have := T1.out.g.g.lt g hF; omega; (rcases hF with rfl | hF; have := T1.out.d.lt; omega; have := T1.out.d.own.lt hF; omega))⟩; have O45 : Kp (Own w5 48 eBd (.slice A4 F.length c4) F) := ⟨O4.out.frame c5 (fun g hg hF => by have h1 := F4.out g hg; rcases hF with hF | hF; have := T3.out.g.g.lt g hF; omega; (rcases hF with rfl | hF; have := T3.out.d.lt; omega; have := T3.out.d.own.lt hF; omega))⟩; have y5 := HBO.out w5 h5.bel; have y51 := blk_c y5 1; have y52 := blk_c y5 2; have y5l := lt_of_block y5; clear y40 y41 y42 y43 y4l h5 c5 y5)
            have HLL : Kp (lastOf ns last ⟨0, oa, ob, orf⟩ ≤ 900000000000000000) := ⟨by have := (lastOf_le ns last ⟨0, oa, ob, orf⟩).1; have := HL2.out; omega⟩
            have HOF := Kp.mk (fun (h1 : pid ≠ oa) (h2 : pid ≠ ob) => of_apart ns last ⟨0, oa, ob, orf⟩ (.inl rfl) h1 h2)
            go_wp2_with fail
            refine (group_any T5.out.g HLL.out pid).mono ?_
            rintro e w6 ⟨v6, S6, rfl, o6, f6, b6, g6⟩
            obtain rfl : S6 = Sa := HAP.out S6 g6
            obtain ⟨A6, c6, hv6, _⟩ := o6.shape
            subst hv6
            have O6 := Kp.mk o6
            have O36 := Kp.mk (O35.out.below b6)
            have O46 := Kp.mk (O45.out.below b6)
            have T6 := Kp.mk (T5.out.below b6)
            rw [← HNA.out]
            clear o6 f6 b6 g6 y51 y52 y5l
            go_wp2_with fail
            have hpq := pids_eq w6 S6 A6 A2 c6 c2 (O6.out.src rfl) (by have := O36.out; rw [HNA.out] at this; exact this.src rfl) (by rw [← HNA.out]; omega)
            rw [← HNA.out] at hpq
            refine hpq.mono ?_
            rintro e w7 ⟨rfl, b7⟩
            have T7 := Kp.mk (T6.out.below b7)
            have O47 := Kp.mk (O46.out.below b7)
            have y7 := HBO.out w7 T7.out.bel
            have y71 := blk_c y7 1
            have y72 := blk_c y7 2
            have y7l := lt_of_block y7
            clear b7 hpq y7
            by_cases hA : pid = oa
            · have hd : (pid == oa) = true := by simpa using hA
              clear hA
              go_wp2_with (go_at_call 16; refine (awake_any _).mono ?_; rintro e w9 ⟨rfl, hb9⟩; have B9 := Kp.mk hb9; clear hb9)
              go_ret
              have hb := bstep T7.out.bel T7.out.bel.size B9.out
              exact ⟨rfl, bstep BY.out BY.out.size hb⟩
            · have hd : (pid == oa) = false := by simpa using hA
              by_cases hB : pid = ob
              · have hd2 : (pid == ob) = true := by simpa using hB
                clear hA hB
                go_wp2_with (go_at_call 16; refine (awake_any _).mono ?_; rintro e w9 ⟨rfl, hb9⟩; have B9 := Kp.mk hb9; clear hb9)
                go_ret
                have hb := bstep T7.out.bel T7.out.bel.size B9.out
                exact ⟨rfl, bstep BY.out BY.out.size hb⟩
              · have hd2 : (pid == ob) = false := by simpa using hB
                have hof := HOF.out hA hB
                rw [← HFF.out] at hof
                have OF := Kp.mk (of_all T7.out.g HLL.out pid)
                rw [hof] at OF
                clear hA hB hof
                go_wp2_with (first
                  | (go_at_call 21; refine OF.out.mono ?_; rintro e w8 ⟨v8, rfl, o8, f8, b8⟩; obtain ⟨A8, c8, hv8, _⟩ := o8.shape; subst hv8; have O8 := Kp.mk o8; have B8 := Kp.mk b8; have O48 := Kp.mk (O47.out.below b8); clear o8 f8 b8)
                  | (go_at_call 14; refine (bonds_eq _ F A8 A4 c8 c4 (O8.out.src rfl) (O48.out.src rfl) (by have := HFl.out; omega)).mono ?_; rintro e wa ⟨rfl, ba⟩; have BA := Kp.mk (bstep B8.out B8.out.size ba); clear ba)
                  | (go_at_call 16; refine (awake_any _).mono ?_; rintro e w9 ⟨rfl, hb9⟩; have B9 := Kp.mk (bstep BA.out BA.out.size hb9); clear hb9))
                go_ret
                have hb := bstep T7.out.bel T7.out.bel.size B9.out
                exact ⟨rfl, bstep BY.out BY.out.size hb⟩
      · skip
        go_upto_region 7 with fail
        obtain ⟨w3, hw3⟩ : ∃ w3, w3 = w2 := ⟨_, rfl⟩
        obtain ⟨wy, hwy⟩ : ∃ wy, wy = wx := ⟨_, rfl⟩
        rw [← hw3]
        have hY : Kp (wy.heap[w.heap.size]? = some (.cells #[.int .i64 1, .int .i64 oa, .int .i64 ob, .int .i64 orf] 23 (0, 0))) := ⟨by rw [hwy]; exact hxx.out⟩
        have hYs : Kp (wy.heap.size = w.heap.size + 1) := ⟨by rw [hwy]; exact HSZ.out⟩
        have BY : Kp (Below w.heap.size w wy) := ⟨by rw [hwy]; exact BX0.out⟩
        have T3 : Kp (Two wy w3 p bm lm rm q lv ns last) := ⟨by rw [hw3, hwy]; exact T2.out⟩
        have O3 : Kp (Own w3 2 eI64 (.slice A2 na c2) Sa) := ⟨by rw [hw3]; exact O2.out⟩
        clear hw3 hwy xk fk xl2
        go_wp2_with fail
        have hbox : ∀ W, Below wy.heap.size wy W → W.heap[w.heap.size]? = some (.cells #[.int .i64 1, .int .i64 oa, .int .i64 ob, .int .i64 orf] 23 (0, 0)) := fun W hb => (hb.block _ (lt_of_block hY.out)).trans hY.out
        have HBO := Kp.mk hbox
        have y3 := hbox w3 T3.out.bel
        have y31 := blk_c y3 1
        have y32 := blk_c y3 2
        have y3l := lt_of_block y3
        clear hbox y3
        go_loop [11, 34] (fun _ i => ∃ (k : Nat), k ≤ na ∧ i = .int .i64 k ∧ Kp (∀ j (hj : j < Sa.length), j < k → Sa[j] ≠ oa ∧ Sa[j] ≠ ob)) (fun _ i => na - (intOf i).toNat)
        case atStart => exact ⟨0, Nat.zero_le _, rfl, ⟨fun j hj h => absurd h (Nat.not_lt_zero _)⟩⟩
        case round =>
          obtain ⟨k, hk, rfl, HJ⟩ := hrel
          by_cases hlt : k < na
          · obtain ⟨A9, c9, hv9, _, _, h0, h1⟩ := O3.out.shape
            obtain ⟨g, rfl⟩ : ∃ g, A2 = some ⟨g, 0, none⟩ := by
              injection hv9 with e1 _ _
              subst e1
              cases A2 with
              | none => have := (h0 rfl).1; have h2 := HNA.out; rw [this] at h2; simp at h2; omega
              | some y => obtain ⟨g, rfl⟩ := h1 y rfl; exact ⟨g, rfl⟩
            clear hv9 h0 h1
            have hkt : k < Sa.length := by have := HNA.out; omega
            have hcx : w3.cell? ⟨g, k, none⟩ = some (.int .i64 Sa[k]) := by
              have h1 := O3.out.elem k 0 hkt (by decide); simpa [eI64] using h1
            obtain ⟨x, hxe⟩ : ∃ x, x = Sa[k] := ⟨_, rfl⟩
            rw [← hxe] at hcx
            have HXE : Kp (∀ h : k < Sa.length, Sa[k] = x) := ⟨fun _ => hxe.symm⟩
            have k0 : (0 : Int) ≤ (k : Int) := by omega
            have k1 : (k : Int) < (na : Int) := by omega
            clear hxe hkt
            by_cases hA : x = oa
            · have hd : (x == oa) = true := by simpa using hA
              clear hA
              go_wp2_with (go_at_call 16; refine (awake_any _).mono ?_; rintro e w9 ⟨rfl, hb9⟩; have B9 := Kp.mk hb9; clear hb9)
              go_ret
              have hb := bstep T3.out.bel T3.out.bel.size B9.out
              exact ⟨rfl, bstep BY.out BY.out.size hb⟩
            · have hd : (x == oa) = false := by simpa using hA
              by_cases hB : x = ob
              · have hd2 : (x == ob) = true := by simpa using hB
                clear hA hB
                go_wp2_with (go_at_call 16; refine (awake_any _).mono ?_; rintro e w9 ⟨rfl, hb9⟩; have B9 := Kp.mk hb9; clear hb9)
                go_ret
                have hb := bstep T3.out.bel T3.out.bel.size B9.out
                exact ⟨rfl, bstep BY.out BY.out.size hb⟩
              · have hd2 : (x == ob) = false := by simpa using hB
                have HJ2 : Kp (∀ j (hj : j < Sa.length), j < k + 1 → Sa[j] ≠ oa ∧ Sa[j] ≠ ob) := ⟨fun j hj h => by
                  by_cases hjk : j = k
                  · subst hjk; rw [HXE.out hj]; exact ⟨hA, hB⟩
                  · exact HJ.out j hj (by omega)⟩
                clear hA hB
                go_wp2
                go_round
                case rel => exact ⟨k + 1, by omega, by go_num, HJ2⟩
                case measure => simp [intOf]; omega
          · obtain rfl : k = na := by omega
            have hnA : oa ∉ Sa := fun hm => by
              obtain ⟨j, hj, e⟩ := List.mem_iff_getElem.1 hm
              exact (HJ.out j hj (by rw [HNA.out]; exact hj)).1 e
            have hnB : ob ∉ Sa := fun hm => by
              obtain ⟨j, hj, e⟩ := List.mem_iff_getElem.1 hm
              exact (HJ.out j hj (by rw [HNA.out]; exact hj)).2 e
            have HAP : Kp (∀ S', IsGrp (sn (nsOf ns last ⟨1, oa, ob, orf⟩)) pid S' → S' = Sa) := ⟨fun S' hS' => grp_apart (ns_apart ns last ⟨1, oa, ob, orf⟩ (.inr rfl)) GA.out hnA hnB hS'⟩
            clear hnA hnB y31 y32 y3l
            go_wp2_with fail
            refine (dof_any _ q lv (sn ns) pid T3.out.d (by have := HN.out; omega)).mono ?_
            rintro e w4 ⟨v4, rfl, o4, f4, b4⟩
            obtain ⟨A4, c4, hv4, _⟩ := o4.shape
            subst hv4
            have T4 := Kp.mk (T3.out.below b4)
            have O34 := Kp.mk (O3.out.below b4)
            have O4 := Kp.mk o4
            have F4 := Kp.mk f4
            have y4 := HBO.out w4 T4.out.bel
            have y40 := blk_c y4 0
            have y41 := blk_c y4 1
            have y42 := blk_c y4 2
            have y43 := blk_c y4 3
            have y4l := lt_of_block y4
            have STP := Kp.mk (stepc_1 sortC wy w4 p bm lm rm q lv ns last oa ob orf T4.out HL.out HR.out)
            clear o4 f4 b4 y4
            obtain ⟨F, hF⟩ : ∃ F, F = (sn ns).filter (isOf pid) := ⟨_, rfl⟩
            have HFl : Kp (F.length ≤ 1024) := ⟨by rw [hF]; have := List.length_filter_le (isOf pid) (sn ns); have := HN.out; omega⟩
            have HFF := Kp.mk hF
            rw [← hF] at O4 F4 ⊢
            clear hF
            go_wp2_with (go_at_call 13; refine STP.out.mono ?_; rintro e w5 ⟨⟨rfl, lv5, h5⟩, c5⟩; have T5 := Kp.mk h5; have O35 : Kp (Own w5 2 eI64 (.slice A2 k c2) Sa) := ⟨O34.out.frame c5 (fun g hg hF => by have h1 := F2.out g hg; rcases hF with hF | hF; have := T1.out.g.g.lt g hF; omega; (rcases hF with rfl | hF; have := T1.out.d.lt; omega; have := T1.out.d.own.lt hF; omega))⟩; have O45 : Kp (Own w5 48 eBd (.slice A4 F.length c4) F) := ⟨O4.out.frame c5 (fun g hg hF => by have h1 := F4.out g hg; rcases hF with hF | hF; have := T3.out.g.g.lt g hF; omega; (rcases hF with rfl | hF; have := T3.out.d.lt; omega; have := T3.out.d.own.lt hF; omega))⟩; have y5 := HBO.out w5 h5.bel; have y51 := blk_c y5 1; have y52 := blk_c y5 2; have y5l := lt_of_block y5; clear y40 y41 y42 y43 y4l h5 c5 y5)
            have HLL : Kp (lastOf ns last ⟨1, oa, ob, orf⟩ ≤ 900000000000000000) := ⟨by have := (lastOf_le ns last ⟨1, oa, ob, orf⟩).1; have := HL2.out; omega⟩
            have HOF := Kp.mk (fun (h1 : pid ≠ oa) (h2 : pid ≠ ob) => of_apart ns last ⟨1, oa, ob, orf⟩ (.inr rfl) h1 h2)
            go_wp2_with fail
            refine (group_any T5.out.g HLL.out pid).mono ?_
            rintro e w6 ⟨v6, S6, rfl, o6, f6, b6, g6⟩
            obtain rfl : S6 = Sa := HAP.out S6 g6
            obtain ⟨A6, c6, hv6, _⟩ := o6.shape
            subst hv6
            have O6 := Kp.mk o6
            have O36 := Kp.mk (O35.out.below b6)
            have O46 := Kp.mk (O45.out.below b6)
            have T6 := Kp.mk (T5.out.below b6)
            rw [← HNA.out]
            clear o6 f6 b6 g6 y51 y52 y5l
            go_wp2_with fail
            have hpq := pids_eq w6 S6 A6 A2 c6 c2 (O6.out.src rfl) (by have := O36.out; rw [HNA.out] at this; exact this.src rfl) (by rw [← HNA.out]; omega)
            rw [← HNA.out] at hpq
            refine hpq.mono ?_
            rintro e w7 ⟨rfl, b7⟩
            have T7 := Kp.mk (T6.out.below b7)
            have O47 := Kp.mk (O46.out.below b7)
            have y7 := HBO.out w7 T7.out.bel
            have y71 := blk_c y7 1
            have y72 := blk_c y7 2
            have y7l := lt_of_block y7
            clear b7 hpq y7
            by_cases hA : pid = oa
            · have hd : (pid == oa) = true := by simpa using hA
              clear hA
              go_wp2_with (go_at_call 16; refine (awake_any _).mono ?_; rintro e w9 ⟨rfl, hb9⟩; have B9 := Kp.mk hb9; clear hb9)
              go_ret
              have hb := bstep T7.out.bel T7.out.bel.size B9.out
              exact ⟨rfl, bstep BY.out BY.out.size hb⟩
            · have hd : (pid == oa) = false := by simpa using hA
              by_cases hB : pid = ob
              · have hd2 : (pid == ob) = true := by simpa using hB
                clear hA hB
                go_wp2_with (go_at_call 16; refine (awake_any _).mono ?_; rintro e w9 ⟨rfl, hb9⟩; have B9 := Kp.mk hb9; clear hb9)
                go_ret
                have hb := bstep T7.out.bel T7.out.bel.size B9.out
                exact ⟨rfl, bstep BY.out BY.out.size hb⟩
              · have hd2 : (pid == ob) = false := by simpa using hB
                have hof := HOF.out hA hB
                rw [← HFF.out] at hof
                have OF := Kp.mk (of_all T7.out.g HLL.out pid)
                rw [hof] at OF
                clear hA hB hof
                go_wp2_with (first
                  | (go_at_call 21; refine OF.out.mono ?_; rintro e w8 ⟨v8, rfl, o8, f8, b8⟩; obtain ⟨A8, c8, hv8, _⟩ := o8.shape; subst hv8; have O8 := Kp.mk o8; have B8 := Kp.mk b8; have O48 := Kp.mk (O47.out.below b8); clear o8 f8 b8)
                  | (go_at_call 14; refine (bonds_eq _ F A8 A4 c8 c4 (O8.out.src rfl) (O48.out.src rfl) (by have := HFl.out; omega)).mono ?_; rintro e wa ⟨rfl, ba⟩; have BA := Kp.mk (bstep B8.out B8.out.size ba); clear ba)
                  | (go_at_call 16; refine (awake_any _).mono ?_; rintro e w9 ⟨rfl, hb9⟩; have B9 := Kp.mk (bstep BA.out BA.out.size hb9); clear hb9))
                go_ret
                have hb := bstep T7.out.bel T7.out.bel.size B9.out
                exact ⟨rfl, bstep BY.out BY.out.size hb⟩
end Go.Proofs.Ytlbbheopoflmjaa
