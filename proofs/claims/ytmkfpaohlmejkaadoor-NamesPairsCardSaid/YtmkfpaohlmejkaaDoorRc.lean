/- The document's Add of names walked; bounds stand in the statements. -/
import Derived.Test.YtmkfpaohlmejkaaDoorRb
import Derived.Test.YtmkfpaohlmejkaaDoorRt
namespace Go.Proofs.YtmkfpaohlmejkaaDoor
open Go.RowKit

/-- Where the document puts a name. -/
structure Pos (L : List En) (s : ByteArray) (k : Nat) : Prop where
  le : k ≤ L.length
  hi : ∀ y ∈ L.drop k, ltS s y.n
  lo : k = 0 ∨ ∃ x, L[k - 1]? = some x ∧ ¬ ltS s x.n
theorem Pos.at {L : List En} {e : En} {k : Nat} (h : Pos L e.n k) (hr : L.Pairwise (fun x y => ltS x.n y.n)) (hn : ∀ x ∈ L, x.n ≠ e.n) : InsAt L e k := by
  refine ⟨h.le, fun y hy => ?_, h.hi⟩
  rcases h.lo with rfl | ⟨x, hx, hxs⟩
  · simp at hy
  · obtain ⟨hk, hxe⟩ := List.getElem?_eq_some_iff.1 hx
    have hxm : x ∈ L := List.mem_of_getElem? hx
    have hlt : ltS x.n e.n := (ltS.tri (hn x hxm)).resolve_right hxs
    obtain ⟨j, hj, hje⟩ := List.mem_iff_getElem.1 hy
    rw [List.length_take] at hj
    rw [List.getElem_take] at hje
    by_cases hjk : j = k - 1
    · subst hjk; rw [← hje, hxe]; exact hlt
    · have h1 := List.pairwise_iff_getElem.1 hr j (k - 1) (by omega) hk (by omega)
      rw [hje, hxe] at h1
      exact h1.trans hlt
theorem ins_same {L : List En} {e : En} {k m : Nat} (h1 : InsAt L e k) (h2 : InsAt L e m) (hr : L.Pairwise (fun x y => ltS x.n y.n)) : ins L e k = ins L e m := by
  have hp : ∀ {k : Nat}, InsAt L e k → (ins L e k).Pairwise (fun x y => ltS x.n y.n) := fun {k} hk => by
    unfold ins
    have h1 := hr
    rw [← List.take_append_drop k L, List.pairwise_append] at h1
    rw [List.pairwise_append]
    refine ⟨h1.1, List.pairwise_cons.2 ⟨hk.hi, h1.2.1⟩, fun a ha b hb => ?_⟩
    rcases List.mem_cons.1 hb with rfl | hb
    · exact hk.lo a ha
    · exact h1.2.2 a ha b hb
  exact rise_uniq (hp h1) (hp h2) ((ins_perm L e k).symm.trans (ins_perm L e m))
theorem pos_add {L : List En} {s : ByteArray} {p : Int} {k : Nat} (h : GOk L) (h0 : addE L s p = 0) (hk : Pos L s k) : addL L s p = L.take k ++ [⟨s, p⟩] ++ L.drop k := by
  unfold addL
  rw [if_pos h0]
  have hn := atN_none (addE_ok h0).2.2.2.1
  rw [ins_same (insAt_pos h.rise (e := ⟨s, p⟩) hn) (hk.at (e := ⟨s, p⟩) h.rise hn) h.rise]
  unfold ins
  simp
theorem less_iff (a b : List UInt8) : Op.bytesLess a b = true ↔ a < b := by
  induction a generalizing b with
  | nil => cases b <;> simp [Op.bytesLess]
  | cons x a ih =>
    cases b with
    | nil => simp [Op.bytesLess]
    | cons y b => simp [Op.bytesLess, List.cons_lt_cons_iff, ih]
theorem less_true {a b : ByteArray} : Op.bytesLess a.toList b.toList = true ↔ ltS a b := by rw [less_iff]; unfold ltS; rw [ByteArray.toList_eq, ByteArray.toList_eq]
theorem less_false {a b : ByteArray} : Op.bytesLess a.toList b.toList = false ↔ ¬ ltS a b := by rw [← less_true]; simp
set_option maxRecDepth 100000 in
set_option maxHeartbeats 4000000 in
theorem dadd_any (w : World) (q : Nat) (lv : Value) (l : List En) (s : ByteArray) (hs : s.size ≤ 140737488355328) (p : Int) (h : IsD w q lv l) (hk : GOk l) :
    Calls Tryd.prog 19 #[.pointer (some ⟨q, 0, none⟩), .string s, .int .i64 p] w (DPost w q lv (.int .i64 (addE l s p)) (addL l s p)) := by
  have hn : l.length ≤ 1000000 := by have := hk.len; omega
  obtain ⟨A, c, hv, q0⟩ := h.sh
  have ql := h.lt
  have hC := cell_any s w hs
  have H := Kp.mk h
  have HK := Kp.mk hk
  have HV := Kp.mk hv
  clear h hk hv
  have fin : ∀ w1 r, Below w.heap.size w w1 → r = addE l s p → r ≠ 0 → DPost w q lv (.int .i64 (addE l s p)) (addL l s p) (Ending.returned (Value.int .i64 r)) w1 := fun w1 r hb he h0 => by
    refine ⟨by rw [he], lv, ?_, .inl rfl, Chg.of_below hb _⟩
    unfold addL
    rw [if_neg (by rw [← he]; exact h0)]
    exact H.out.below hb
  have FIN := Kp.mk fin
  clear fin
  by_cases h2 : s = undefS
  · have he : Kp (20 = addE l s p) := ⟨by unfold addE; rw [if_pos (.inr h2)]⟩
    have hu : (s.toList == ([117, 110, 100, 101, 102, 105, 110, 101, 100] : List UInt8)) = true := by rw [h2, ByteArray.toList_eq]; rfl
    clear h2
    go_enter Tryd.func19, Tryd.ntmps19
    go_wp2
    go_ret
    exact FIN.out _ _ (Below.refl _ _) he.out (by decide)
  · have hu : (s.toList == ([117, 110, 100, 101, 102, 105, 110, 101, 100] : List UInt8)) = false := by
      rw [beq_eq_false_iff_ne]
      exact fun e => h2 (WideShapes.bytes_inj (by rw [← ByteArray.toList_eq, e]; rfl))
    cases h1 : okA s
    · have he : Kp (20 = addE l s p) := ⟨by unfold addE; rw [if_pos (.inl h1)]⟩
      rw [h1] at hC
      clear h2
      go_enter Tryd.func19, Tryd.ntmps19
      go_wp2_with (go_at_call 18; refine hC.mono ?_; rintro e w1 ⟨rfl, hb⟩)
      go_ret
      exact FIN.out _ _ hb he.out (by decide)
    · have n1 : ¬ (okA s = false ∨ s = undefS) := by rw [h1]; simpa using h2
      rw [h1] at hC
      by_cases h3 : p < 1
      · have he : Kp (1 = addE l s p) := ⟨by unfold addE; rw [if_neg n1, if_pos (fun h => by have := h.1; omega)]⟩
        clear h2 n1
        go_enter Tryd.func19, Tryd.ntmps19
        go_wp2_with (go_at_call 18; refine hC.mono ?_; rintro e w1 ⟨rfl, hb⟩)
        go_ret
        exact FIN.out _ _ hb he.out (by decide)
      · by_cases h4 : 1099511627776 < p
        · have he : Kp (1 = addE l s p) := ⟨by unfold addE; rw [if_neg n1, if_pos (fun h => by have := h.2; omega)]⟩
          clear h2 n1
          go_enter Tryd.func19, Tryd.ntmps19
          go_wp2_with (go_at_call 18; refine hC.mono ?_; rintro e w1 ⟨rfl, hb⟩)
          go_ret
          exact FIN.out _ _ hb he.out (by decide)
        · have n2 : ¬ ¬ IsPid p := fun h => h ⟨by omega, by omega⟩
          have hnx : ∀ w1, Below w.heap.size w w1 → (Calls Tryd.prog 27 #[.pointer (some ⟨q, 0, none⟩), .string s] w1 fun e w' => ∃ k, AtF l (fun x => x.n = s) k ∧ e = .returned (.int .i64 k) ∧ w1 = w') ∧ (Calls Tryd.prog 28 #[.pointer (some ⟨q, 0, none⟩), .int .i64 p] w1 fun e w' => ∃ k, AtF l (fun x => x.p = p) k ∧ e = .returned (.int .i64 k) ∧ w1 = w') ∧ w1.cell? ⟨q, 0, none⟩ = some (.slice A l.length c) := fun w1 hb =>
            ⟨dfind_any w1 q lv l s (H.out.below hb) hn, dwho_any w1 q lv l p (H.out.below hb) hn, by have := (H.out.below hb).c0; rw [HV.out] at this; exact this⟩
          have HNX := Kp.mk hnx
          have N1 := Kp.mk n1
          have N2 := Kp.mk n2
          clear hnx n1 n2 h2
          go_enter Tryd.func19, Tryd.ntmps19
          go_wp2_with (first
            | (go_at_call 18; refine hC.mono ?_; rintro e w1 ⟨rfl, hb⟩; have HB := Kp.mk hb; have qc := (HNX.out w1 hb).2.2; clear hb)
            | (go_at_call 27; refine (HNX.out _ HB.out).1.mono ?_; rintro e w2 ⟨k, hat, rfl, rfl⟩; rcases atF_find hat with ⟨i, x, rfl, hx, hxs, hf⟩ | ⟨rfl, hf⟩)
            | (go_at_call 28; refine (HNX.out _ HB.out).2.1.mono ?_; rintro e w2 ⟨k2, hat2, rfl, rfl⟩; rcases atF_find hat2 with ⟨i2, x2, rfl, hx2, hxs2, hf2⟩ | ⟨rfl, hf2⟩))
          · have he : Kp (6 = addE l s p) := ⟨by unfold addE; rw [if_neg N1.out, if_neg N2.out, if_pos (.inl (by unfold atN; rw [hf]; rfl))]⟩
            go_ret
            exact FIN.out _ _ HB.out he.out (by decide)
          · have he : Kp (6 = addE l s p) := ⟨by unfold addE; rw [if_neg N1.out, if_neg N2.out, if_pos (.inr (by unfold atP; rw [hf2]; rfl))]⟩
            go_ret
            exact FIN.out _ _ HB.out he.out (by decide)
          · have h6 : 64 ≤ (l.length : Int) := by assumption
            have he : Kp (8 = addE l s p) := ⟨by unfold addE; rw [if_neg N1.out, if_neg N2.out, if_neg (by unfold atN atP; rw [hf, hf2]; simp), if_pos (by omega)]⟩
            go_ret
            exact FIN.out _ _ HB.out he.out (by decide)
          · have h6 : (l.length : Int) < 64 := by assumption
            have he : Kp (addE l s p = 0) := ⟨by unfold addE; rw [if_neg N1.out, if_neg N2.out, if_neg (by unfold atN atP; rw [hf, hf2]; simp), if_neg (by omega)]⟩
            have H1 := Kp.mk (H.out.below HB.out)
            have HO := H1.out.own
            rw [HV.out] at HO
            obtain ⟨A9, c3, hv3, hc3, hm3, hs0, hs1⟩ := HO.shape
            obtain rfl : A = A9 := by injection hv3
            obtain rfl : c = c3 := by injection hv3
            have HS0 := Kp.mk hs0
            have HS1 := Kp.mk hs1
            have HOO := Kp.mk HO
            clear hf hf2 hat hat2 HO hs0 hs1 hv3 h3 h4
            go_loop [7] (fun kv => ∃ k : Nat, k ≤ l.length ∧ kv = .int .i64 k ∧ Kp (∀ y ∈ l.drop k, ltS s y.n)) (fun kv => (intOf kv).toNat)
            case atStart => exact ⟨l.length, Nat.le_refl _, rfl, ⟨fun y hy => by rw [List.drop_length] at hy; cases hy⟩⟩
            case round =>
              obtain ⟨k, hk, rfl, HJ⟩ := hrel
              have hl1 : (l.take k).length = k := by rw [List.length_take]; omega
              have hown0 : Own w1 45 eEn (.slice none 0 0) [] := Own.nil _ _ _
              have hl64 : l.length < 64 := by omega
              have z0 : (0 : Int) ≤ (k : Int) := by omega
              have z1 : (k : Int) ≤ (c : Int) := by omega
              have z2 : k ≤ c := by omega
              by_cases h0 : k = 0
              · subst h0
                have hP : Kp (Pos l s 0) := ⟨⟨hk, HJ.out, .inl rfl⟩⟩
                clear hl1 z0 z1 z2
                cases A with
                | none =>
                  have e0 := HS0.out rfl
                  have hlz : l.length = 0 := by rw [e0.1]; rfl
                  have qc2 : w1.cell? ⟨q, 0, none⟩ = some (.slice none 0 0) := by rw [qc, e0.2, hlz]
                  clear qc e0
                  have qc := qc2
                  clear qc2
                  go_upto_region 15 with (at_builtin; refine app1_ev T26 ⟨s, p⟩ rfl _ _ rfl hown0 rfl rfl rfl (by simp) rfl (by simp only [List.length_nil]; omega) (by simp only [List.length_nil]; omega) ?_; intro A2 n2 c2 w3 b0 b1 b2 b3)
                  obtain rfl : n2 = 1 := by have h1 := b0.out; simpa using h1
                  rw [List.nil_append] at b1
                  have HF2 : Kp (Fresh w1 (.slice A2 1 c2)) := ⟨(Fresh.nil w1 0 0).app (Nat.le_refl _) b3⟩
                  have hb2 : Below w1.heap.size w1 w3 := b2.below_all (fun k hk => by cases hk)
                  have HB2 := Kp.mk hb2
                  have H3 := Kp.mk (H1.out.below hb2)
                  have q3 : w3.cell? ⟨q, 0, none⟩ = some (.slice none 0 0) := by have h9 := H3.out.c0; rw [HV.out] at h9; rw [h9]; rw [(HS0.out rfl).1, (HS0.out rfl).2]; rfl
                  have src2 : Src w3 eEn none 0 l := ⟨fun _ h => (by cases h), fun _ => ⟨(HS0.out rfl).1, rfl⟩⟩
                  have hl2 : Kp (0 = l.length) := ⟨by rw [(HS0.out rfl).1]; rfl⟩
                  clear b0 b2 b3 hb2 qc
                  go_upto_region 16 with (at_builtin; refine app_ev T26 rfl _ _ rfl b1 rfl src2 hl2.out rfl (by simp only [List.length_cons, List.length_nil]; omega) (by simp only [List.length_cons, List.length_nil]; omega) ?_; intro A3 n3 c3 w4 d0 d1 d2 d3)
                  have B4 := d2.at H3.out.blk (fun h => by have h1 := HF2.out q h; have := H1.out.lt; omega)
                  have q4 := blk_c B4 0
                  have z4 := blk_f B4 0
                  have l4 := lt_of_block B4
                  have ead := pos_add HK.out he.out hP.out
                  rw [List.take_zero, List.drop_zero, List.nil_append] at ead
                  rw [← ead] at d1
                  have H4 := Kp.mk (IsD.set B4 d1)
                  have HF4 : Kp (Fresh w (.slice A3 n3 c3)) := ⟨(HF2.out.app HB2.out.size d3).up HB.out.size⟩
                  have HC : Kp (Chg (FD q lv) w w4) := ⟨(Chg.of_below (bstep HB.out HB.out.size HB2.out) _).trans d2 (fun n hn hF => by have h1 := HF2.out n hF; have := HB.out.size; omega)⟩
                  clear b1 d0 d1 d2 d3 ead
                  go_wp2
                  go_ret
                  exact ⟨by rw [he.out]; rfl, _, H4.out, .inr HF4.out, HC.out.set (p := ⟨q, 0, none⟩) (.inl (.inl rfl)) _⟩
                | some ad =>
                  obtain ⟨g, rfl⟩ := HS1.out ad rfl
                  go_upto_region 15 with (at_builtin; refine app1_ev T26 ⟨s, p⟩ rfl _ _ rfl hown0 rfl rfl rfl (by simp) rfl (by simp only [List.length_nil]; omega) (by simp only [List.length_nil]; omega) ?_; intro A2 n2 c2 w3 b0 b1 b2 b3)
                  obtain rfl : n2 = 1 := by have h1 := b0.out; simpa using h1
                  rw [List.nil_append] at b1
                  have HF2 : Kp (Fresh w1 (.slice A2 1 c2)) := ⟨(Fresh.nil w1 0 0).app (Nat.le_refl _) b3⟩
                  have hb2 : Below w1.heap.size w1 w3 := b2.below_all (fun k hk => by cases hk)
                  have HB2 := Kp.mk hb2
                  have H3 := Kp.mk (H1.out.below hb2)
                  have q3 : w3.cell? ⟨q, 0, none⟩ = some (.slice (some ⟨g, 0, none⟩) l.length c) := by have h9 := H3.out.c0; rw [HV.out] at h9; rw [h9]
                  have src2 : Src w3 eEn (some ⟨g, 0, none⟩) c l := (HOO.out.src rfl).below hb2
                  clear b0 b2 b3 hb2 qc
                  go_upto_region 16 with (at_builtin; refine app_ev T26 rfl _ _ rfl b1 rfl src2 rfl rfl (by simp only [List.length_cons, List.length_nil]; omega) (by simp only [List.length_cons, List.length_nil]; omega) ?_; intro A3 n3 c3 w4 d0 d1 d2 d3)
                  have B4 := d2.at H3.out.blk (fun h => by have h1 := HF2.out q h; have := H1.out.lt; omega)
                  have q4 := blk_c B4 0
                  have z4 := blk_f B4 0
                  have l4 := lt_of_block B4
                  have ead := pos_add HK.out he.out hP.out
                  rw [List.take_zero, List.drop_zero, List.nil_append] at ead
                  rw [← ead] at d1
                  have H4 := Kp.mk (IsD.set B4 d1)
                  have HF4 : Kp (Fresh w (.slice A3 n3 c3)) := ⟨(HF2.out.app HB2.out.size d3).up HB.out.size⟩
                  have HC : Kp (Chg (FD q lv) w w4) := ⟨(Chg.of_below (bstep HB.out HB.out.size HB2.out) _).trans d2 (fun n hn hF => by have h1 := HF2.out n hF; have := HB.out.size; omega)⟩
                  clear b1 d0 d1 d2 d3 ead
                  go_wp2
                  go_ret
                  exact ⟨by rw [he.out]; rfl, _, H4.out, .inr HF4.out, HC.out.set (p := ⟨q, 0, none⟩) (.inl (.inl rfl)) _⟩
              · obtain ⟨x, hx⟩ : ∃ x, l[k - 1]? = some x := ⟨_, List.getElem?_eq_getElem (by omega)⟩
                obtain ⟨g, rfl⟩ : ∃ g, A = some ⟨g, 0, none⟩ := by
                  cases A with
                  | none => have h1 := (HS0.out rfl).1; rw [h1] at hk; simp at hk; omega
                  | some y => obtain ⟨g, rfl⟩ := HS1.out y rfl; exact ⟨g, rfl⟩
                obtain ⟨a0, a1⟩ := HOO.out.en (k - 1) x hx
                have k0 : (0 : Int) < (k : Int) := by omega
                have k1 : (k : Int) ≤ (l.length : Int) := by omega
                have k2 : ((k : Int) - 1).toNat = k - 1 := by omega
                have k3 : (1 : Int) ≤ (k : Int) := by omega
                have HX := Kp.mk hx
                have HA := Kp.mk (And.intro a0 a1)
                have src1 : Src w1 eEn (some ⟨g, 0, none⟩) c (l.take k) := (HOO.out.src rfl).take k
                clear hx a1
                by_cases hgt : ltS s x.n
                · have hd : Op.bytesLess x.n.toList s.toList = false := less_false.2 (fun e => ltS.irr _ (e.trans hgt))
                  have hd2 : (x.n.toList == s.toList) = false := beq_eq_false_iff_ne.2 (fun e => hgt.ne (WideShapes.bytes_inj (by rw [← ByteArray.toList_eq, ← ByteArray.toList_eq]; exact e.symm)))
                  have HG := Kp.mk hgt
                  clear hgt hown0 src1 hl1
                  go_wp2
                  go_round
                  case rel =>
                    refine ⟨k - 1, by omega, by go_num, ⟨fun y hy => ?_⟩⟩
                    have hkl : k - 1 < l.length := by omega
                    rw [List.drop_eq_getElem_cons hkl] at hy
                    rcases List.mem_cons.1 hy with e | hy
                    · have h2 := HX.out
                      rw [List.getElem?_eq_getElem hkl] at h2
                      rw [e, Option.some.inj h2]; exact HG.out
                    · rw [show k - 1 + 1 = k by omega] at hy
                      exact HJ.out y hy
                  case measure => simp [intOf]; omega
                · have hd : Op.bytesLess x.n.toList s.toList = true := less_true.2 ((ltS.tri (atN_none (addE_ok he.out).2.2.2.1 x (List.mem_of_getElem? HX.out))).resolve_right hgt)
                  have hP : Kp (Pos l s k) := ⟨⟨hk, HJ.out, .inr ⟨x, HX.out, hgt⟩⟩⟩
                  clear hgt
                  by_cases hcap : c = k
                  · have hdr : Kp (l.drop k = []) := ⟨List.drop_eq_nil_of_le (by omega)⟩
                    have hll : l.length = k := by omega
                    have hl2 : (l.drop k).length = 0 := by rw [hdr.out]; rfl
                    have k5 : (c : Int) = (k : Int) := by omega
                    have qc' : w1.cell? ⟨q, 0, none⟩ = some (.slice (some ⟨g, 0, none⟩) k k) := by rw [qc, hll, hcap]
                    have src1' : Src w1 eEn (some ⟨g, 0, none⟩) k (l.take k) := hcap ▸ src1
                    clear qc src1
                    go_upto_region 14 with (at_builtin; refine app_ev T26 rfl _ _ rfl hown0 rfl src1' hl1.symm rfl (by simp only [List.length_nil]; omega) (by simp only [List.length_nil]; omega) ?_; intro A1 n1 c1 w2 a0 a1 a2 a3)
                    obtain rfl : n1 = k := by have h1 := a0.out; rw [hl1] at h1; simpa using h1
                    rw [List.nil_append] at a1
                    have hb1 : Below w1.heap.size w1 w2 := a2.below_all (fun k hk => by cases hk)
                    have H2 := Kp.mk (H1.out.below hb1)
                    have HB1 := Kp.mk hb1
                    have HF : Kp (Fresh w1 (.slice A1 n1 c1)) := ⟨fun g hg => by
                      rcases a3 with h | ⟨g', h, h2⟩
                      · rw [h] at hg; cases hg
                      · rw [h] at hg; cases hg; exact h2⟩
                    clear hown0 src1' a0 a2 a3 hb1
                    go_upto_region 15 with (at_builtin; refine app1_ev T26 ⟨s, p⟩ rfl _ _ rfl a1 rfl rfl rfl (by simp) rfl (by rw [hl1]; omega) (by rw [hl1]; omega) ?_; intro A2 n2 c2 w3 b0 b1 b2 b3)
                    obtain rfl : n2 = n1 + 1 := by have h1 := b0.out; rw [hl1] at h1; exact h1
                    have HF2 : Kp (Fresh w1 (.slice A2 (n1 + 1) c2)) := ⟨HF.out.app HB1.out.size b3⟩
                    have hb2 : Below w1.heap.size w1 w3 := chg_below HB1.out b2 (fun g hg => HF.out g hg) HB1.out.size
                    have HB2 := Kp.mk hb2
                    have H3 := Kp.mk (H1.out.below hb2)
                    have q3 : w3.cell? ⟨q, 0, none⟩ = some (.slice (some ⟨g, 0, none⟩) n1 n1) := by have h9 := H3.out.c0; rw [HV.out] at h9; rw [h9]; rw [hll, hcap]
                    have src2 : Src w3 eEn (some ⟨g, 0, none⟩) 0 (l.drop n1) := by rw [hdr.out]; exact Src.empty
                    clear a1 b0 b2 b3 hb2
                    go_upto_region 16 with (at_builtin; refine app_ev T26 rfl _ _ rfl b1 rfl src2 hl2.symm rfl (by rw [List.length_append, hl1, hl2]; simp only [List.length_cons, List.length_nil]; omega) (by rw [List.length_append, hl1, hl2]; simp only [List.length_cons, List.length_nil]; omega) ?_; intro A3 n3 c3 w4 d0 d1 d2 d3)
                    have B4 := d2.at H3.out.blk (fun h => by have h1 := HF2.out q h; have := H1.out.lt; omega)
                    have q4 := blk_c B4 0
                    have z4 := blk_f B4 0
                    have l4 := lt_of_block B4
                    rw [← pos_add HK.out he.out hP.out] at d1
                    have H4 := Kp.mk (IsD.set B4 d1)
                    have HF4 : Kp (Fresh w (.slice A3 n3 c3)) := ⟨(HF2.out.app HB2.out.size d3).up HB.out.size⟩
                    have HC : Kp (Chg (FD q lv) w w4) := ⟨(Chg.of_below (bstep HB.out HB.out.size HB2.out) _).trans d2 (fun n hn hF => by have h1 := HF2.out n hF; have := HB.out.size; omega)⟩
                    clear b1 d0 d1 d2 d3
                    go_wp2
                    go_ret
                    exact ⟨by rw [he.out]; rfl, _, H4.out, .inr HF4.out, HC.out.set (p := ⟨q, 0, none⟩) (.inl (.inl rfl)) _⟩
                  · have k6 : ¬ ((c : Int) = (k : Int)) := by omega
                    have k7 : ¬ (k = c) := fun e => hcap e.symm
                    have k8 : (l.length : Int) ≤ (c : Int) := by omega
                    go_upto_region 14 with (at_builtin; refine app_ev T26 rfl _ _ rfl hown0 rfl src1 hl1.symm rfl (by simp only [List.length_nil]; omega) (by simp only [List.length_nil]; omega) ?_; intro A1 n1 c1 w2 a0 a1 a2 a3)
                    obtain rfl : n1 = k := by have h1 := a0.out; rw [hl1] at h1; simpa using h1
                    rw [List.nil_append] at a1
                    have hb1 : Below w1.heap.size w1 w2 := a2.below_all (fun k hk => by cases hk)
                    have H2 := Kp.mk (H1.out.below hb1)
                    have HB1 := Kp.mk hb1
                    have HF : Kp (Fresh w1 (.slice A1 n1 c1)) := ⟨fun g hg => by
                      rcases a3 with h | ⟨g', h, h2⟩
                      · rw [h] at hg; cases hg
                      · rw [h] at hg; cases hg; exact h2⟩
                    clear hown0 src1 a0 a2 a3 hb1
                    go_upto_region 15 with (at_builtin; refine app1_ev T26 ⟨s, p⟩ rfl _ _ rfl a1 rfl rfl rfl (by simp) rfl (by rw [hl1]; omega) (by rw [hl1]; omega) ?_; intro A2 n2 c2 w3 b0 b1 b2 b3)
                    obtain rfl : n2 = n1 + 1 := by have h1 := b0.out; rw [hl1] at h1; exact h1
                    have HF2 : Kp (Fresh w1 (.slice A2 (n1 + 1) c2)) := ⟨HF.out.app HB1.out.size b3⟩
                    have hb2 : Below w1.heap.size w1 w3 := chg_below HB1.out b2 (fun g hg => HF.out g hg) HB1.out.size
                    have HB2 := Kp.mk hb2
                    have H3 := Kp.mk (H1.out.below hb2)
                    have q3 : w3.cell? ⟨q, 0, none⟩ = some (.slice (some ⟨g, 0, none⟩) l.length c) := by have h9 := H3.out.c0; rw [HV.out] at h9; rw [h9]
                    have src2 : Src w3 eEn (some ⟨g, 0 + n1 * 2, none⟩) (c - n1) (l.drop n1) := ((HOO.out.src rfl).below hb2).drop n1 (by omega)
                    rw [Nat.zero_add] at src2
                    have hl2 : (l.drop n1).length = l.length - n1 := List.length_drop
                    clear a1 b0 b2 b3 hb2 qc
                    go_upto_region 16 with (at_builtin; refine app_ev T26 rfl _ _ rfl b1 rfl src2 hl2.symm rfl (by rw [List.length_append, hl1, hl2]; simp only [List.length_cons, List.length_nil]; omega) (by rw [List.length_append, hl1, hl2]; simp only [List.length_cons, List.length_nil]; omega) ?_; intro A3 n3 c3 w4 d0 d1 d2 d3)
                    have B4 := d2.at H3.out.blk (fun h => by have h1 := HF2.out q h; have := H1.out.lt; omega)
                    have q4 := blk_c B4 0
                    have z4 := blk_f B4 0
                    have l4 := lt_of_block B4
                    rw [← pos_add HK.out he.out hP.out] at d1
                    have H4 := Kp.mk (IsD.set B4 d1)
                    have HF4 : Kp (Fresh w (.slice A3 n3 c3)) := ⟨(HF2.out.app HB2.out.size d3).up HB.out.size⟩
                    have HC : Kp (Chg (FD q lv) w w4) := ⟨(Chg.of_below (bstep HB.out HB.out.size HB2.out) _).trans d2 (fun n hn hF => by have h1 := HF2.out n hF; have := HB.out.size; omega)⟩
                    clear b1 d0 d1 d2 d3
                    go_wp2
                    go_ret
                    exact ⟨by rw [he.out]; rfl, _, H4.out, .inr HF4.out, HC.out.set (p := ⟨q, 0, none⟩) (.inl (.inl rfl)) _⟩
end Go.Proofs.YtmkfpaohlmejkaaDoor
