/- NamesUndone walked: it answers true; its bounds stand in the statement. -/
import Derived.Test.YtmkfpaohlmejkaaDoorPp
namespace Go.Proofs.YtmkfpaohlmejkaaDoor
open Go.RowKit

section
variable {l : List En} {s : ByteArray} {p : Int}
theorem mem_add (h0 : addE l s p = 0) : (⟨s, p⟩ : En) ∈ addL l s p := by
  unfold addL
  rw [if_pos h0]
  exact (ins_perm l ⟨s, p⟩ _).mem_iff.1 (.head _)
theorem len_add (h0 : addE l s p = 0) : (addL l s p).length = l.length + 1 := by
  unfold addL
  rw [if_pos h0, ← (ins_perm l ⟨s, p⟩ _).length_eq]
  rfl
theorem atP_mem {l : List En} (h : GOk l) {x : En} (hx : x ∈ l) : atP l x.p = some x := by
  cases h1 : atP l x.p with
  | none => exact absurd rfl (atP_none h1 x hx)
  | some y => rw [h.uniqP (atP_some h1).1 hx (atP_some h1).2]
theorem out_add (h0 : addE l s p = 0) : outN (addL l s p) s = l := by
  have hn := atN_none (addE_ok h0).2.2.2.1
  unfold addL
  rw [if_pos h0]
  unfold ins outN
  rw [List.filter_append, List.filter_cons, if_neg (by simp)]
  rw [List.filter_eq_self.2 (fun x hx => by simpa using hn x (List.mem_of_mem_take hx)), List.filter_eq_self.2 (fun x hx => by simpa using hn x (List.mem_of_mem_drop hx))]
  exact List.take_append_drop _ _
theorem find_add (h : GOk l) (h0 : addE l s p = 0) : findR (addL l s p) s = .tuple #[.int .i64 p, .bool true] := by
  unfold findR
  rw [atN_mem (h.add (s := s) (p := p)) (mem_add h0)]
  rfl
theorem name_add (h : GOk l) (h0 : addE l s p = 0) : nameR (addL l s p) p = .tuple #[.string s, .bool true] := by
  unfold nameR
  rw [atP_mem (h.add (s := s) (p := p)) (mem_add h0)]
  rfl
theorem outP_add (h : GOk l) (h0 : addE l s p = 0) : outP (addL l s p) p = l := by
  unfold outP
  rw [atP_mem (h.add (s := s) (p := p)) (mem_add h0)]
  exact out_add h0
theorem drop_add (h : GOk l) (h0 : addE l s p = 0) : dropE (addL l s p) s = 0 := by
  unfold dropE
  rw [atN_mem (h.add (s := s) (p := p)) (mem_add h0)]
  rfl
theorem addL_no (h0 : addE l s p ≠ 0) : addL l s p = l := by unfold addL; rw [if_neg h0]
end
set_option maxRecDepth 100000 in
set_option maxHeartbeats 16000000 in
theorem namesUndone_any (w : World) (ops : List OpM) (s : ByteArray) (r : Int) (by_ : Bool) (A : Option Addr) (c : Nat) (hs : Src w eOp A c ops) (hr : ∀ o ∈ ops, OpG o) (hsz : s.size ≤ 140737488355328) (hri : KI.ok r) (hT : Tabs w) (hn : ops.length ≤ 9000000000000) :
    Calls Tryd.prog 5 #[.slice A ops.length c, .string s, .int .i64 r, .bool by_] w fun e w' => e = .returned (.bool true) ∧ Below w.heap.size w w' := by
  have hs2 : s.size ≤ maxLen := by unfold maxLen; omega
  have HS := Kp.mk hs
  have HR := Kp.mk hr
  have HTT := Kp.mk hT
  have HRI := Kp.mk hri
  clear hs hr hT hri
  go_enter Tryd.func5, Tryd.ntmps5
  go_wp2_with fail
  refine (new_any w).mono ?_
  rintro e w1 ⟨p, a, b, rfl, h1, hf, hb1⟩
  have H1 := Kp.mk h1
  have HF := Kp.mk hf
  have HB1 := Kp.mk hb1
  clear h1 hf hb1
  go_wp2_with fail
  go_loopw [10] (fun i wr => ∃ (k : Nat) (ns : List En), k ≤ ops.length ∧ i = .int .i64 k ∧ Kp (IsN wr p a b ns) ∧ Kp (Below w.heap.size w wr)) (fun i _ => ops.length - (intOf i).toNat)
  case atStart => exact ⟨0, [], Nat.zero_le _, rfl, H1, HB1⟩
  case round =>
    clear H1 HB1
    obtain ⟨k, ns, hk, rfl, hN, hB⟩ := hrel
    by_cases hlt : k < ops.length
    · cases A with
      | none => have := (HS.out.none rfl).1; subst this; simp at hlt
      | some x =>
        obtain ⟨g, o, rfl⟩ := HS.out.addr (by omega)
        have hs := HS.out.below hB.out
        obtain ⟨e0, e1, e2⟩ := op_cells hs k hlt
        have hrx := HR.out ops[k] (List.getElem_mem hlt)
        obtain ⟨x, hx⟩ : ∃ x, x = ops[k] := ⟨_, rfl⟩
        rw [← hx] at e0 e1 e2 hrx
        have k0 : (0 : Int) ≤ (k : Int) := by omega
        have k1 : (k : Int) < (ops.length : Int) := by omega
        have E0 := Kp.mk (And.intro e1 e2)
        have HX := Kp.mk hrx
        clear hs hx hrx e1 e2
        cases hd : (x.kind == 0)
        · go_wp2
          go_roundw
          case rel => exact ⟨k + 1, ns, by omega, by go_num, hN, hB⟩
          case measure => simp [intOf]; omega
        · have ADD := Kp.mk (add_any _ p a b ns (hN.out.below (Below.refl _ _).drew) (HTT.out.below (hB.out.trans ((Below.refl _ _).drew.mono hB.out.size))) x.n HX.out.1 x.p HX.out.2)
          go_upto_region 8 with fail
          refine R_begin 11 (fun w9 => w9.cell? ⟨g, o + k * 3 + 1, none⟩ = some (.string x.n) ∧ w9.cell? ⟨g, o + k * 3 + 2, none⟩ = some (.int .i64 x.p)) (by kernel_rfl) E0.out (fun HP0 => ?_)
          refine R_pure 0 rfl (by kernel_rfl) HP0 ?_
          apply Exists.intro
          refine ⟨fun _ _ _ h => h, .inl ⟨by kernel_rfl, fun w9 h9 => ?_⟩, fun HP1 => ?_⟩
          · clear h9; go_simp; first | done | rfl
          clear HP0
          refine R_pure 1 rfl (by kernel_rfl) HP1 ?_
          apply Exists.intro
          refine ⟨fun _ _ _ h => h, .inl ⟨by kernel_rfl, fun w9 h9 => ?_⟩, fun HP2 => ?_⟩
          · clear h9; go_simp; first | done | rfl
          clear HP1
          refine R_pure 2 rfl (by kernel_rfl) HP2 ?_
          apply Exists.intro
          refine ⟨fun _ _ _ h => h, .inl ⟨by kernel_rfl, fun w9 h9 => ?_⟩, fun HP3 => ?_⟩
          · clear h9; go_simp; first | done | rfl
          clear HP2
          refine R_pure 3 rfl (by kernel_rfl) HP3 ?_
          apply Exists.intro
          refine ⟨fun _ _ _ h => h, .inl ⟨by kernel_rfl, fun w9 h9 => ?_⟩, fun HP4 => ?_⟩
          · clear h9; go_simp; first | done | rfl
          clear HP3
          refine R_pure 4 rfl (by kernel_rfl) HP4 ?_
          apply Exists.intro
          refine ⟨fun _ _ _ h => h, .inl ⟨by kernel_rfl, fun w9 h9 => ?_⟩, fun HP5 => ?_⟩
          · clear h9; go_simp; first | done | rfl
          clear HP4
          refine R_take 5 rfl (by kernel_rfl) HP5 ?_
          apply Exists.intro
          refine ⟨fun _ _ _ h => h, .inl ⟨by kernel_rfl, fun w9 h9 => ?_⟩, fun HP6 => ?_⟩
          · obtain ⟨s1, s2⟩ := h9; go_simp; first | done | rfl
          clear HP5
          refine R_pure 6 rfl (by kernel_rfl) HP6 ?_
          apply Exists.intro
          refine ⟨fun _ _ _ h => h, .inl ⟨by kernel_rfl, fun w9 h9 => ?_⟩, fun HP7 => ?_⟩
          · clear h9; go_simp; first | done | rfl
          clear HP6
          refine R_pure 7 rfl (by kernel_rfl) HP7 ?_
          apply Exists.intro
          refine ⟨fun _ _ _ h => h, .inl ⟨by kernel_rfl, fun w9 h9 => ?_⟩, fun HP8 => ?_⟩
          · clear h9; go_simp; first | done | rfl
          clear HP7
          refine R_pure 8 rfl (by kernel_rfl) HP8 ?_
          apply Exists.intro
          refine ⟨fun _ _ _ h => h, .inl ⟨by kernel_rfl, fun w9 h9 => ?_⟩, fun HP9 => ?_⟩
          · clear h9; go_simp; first | done | rfl
          clear HP8
          refine R_pure 9 rfl (by kernel_rfl) HP9 ?_
          apply Exists.intro
          refine ⟨fun _ _ _ h => h, .inl ⟨by kernel_rfl, fun w9 h9 => ?_⟩, fun HP10 => ?_⟩
          · clear h9; go_simp; first | done | rfl
          clear HP9
          refine R_take 10 rfl (by kernel_rfl) HP10 ?_
          apply Exists.intro
          refine ⟨fun _ _ _ h => h, .inl ⟨by kernel_rfl, fun w9 h9 => ?_⟩, fun HP11 => ?_⟩
          · obtain ⟨s1, s2⟩ := h9; go_simp; first | done | rfl
          clear HP10
          refine R_all [11] (by kernel_rfl) ?_
          refine AllR.cons (i := 11) rfl (fun K9 HK9 => ?_) ?_
          · go_simp
            refine ADD.out.mono ?_
            rintro e w5 ⟨rfl, h5, c5⟩
            have H5 := Kp.mk h5
            have B5 := Kp.mk (chg_below (hB.out.trans ((Below.refl _ _).drew.mono hB.out.size)) c5 HF.out hB.out.size)
            clear h5 c5
            go_simp
            refine HK9.out _ _ (.inl (by kernel_rfl)) (fun HP12 => ?_)
            clear HK9 K9
            refine R_done (by kernel_rfl) ?_
            go_wp2
            go_roundw
            case rel => exact ⟨k + 1, _, by omega, by go_num, H5, B5⟩
            case measure => simp [intOf]; omega
          exact AllR.nil
    · obtain rfl : k = ops.length := by omega
      have HN := Kp.mk hN.out
      have HB := Kp.mk hB.out
      clear hN hB
      have AL := Kp.mk (all_any HN.out 0 (by omega))
      rw [cutE_0] at AL
      have OKK := Kp.mk HN.out.ok
      obtain ⟨m, hm⟩ : ∃ m, m = ns.length := ⟨_, rfl⟩
      have HM := Kp.mk hm
      have hm64 : m ≤ 64 := by rw [hm]; exact HN.out.ok.len
      clear hm
      go_wp2_with fail
      refine AL.out.mono ?_
      rintro e w2 ⟨v2, rfl, o2, f2, b2⟩
      obtain ⟨A2, c2, hv2, _⟩ := o2.shape
      subst hv2
      rw [← HM.out] at o2 f2 ⊢
      have O2 := Kp.mk o2
      have F2 := Kp.mk f2
      have HN2 := Kp.mk (HN.out.below b2)
      have HB2 := Kp.mk (bstep HB.out HB.out.size b2)
      have ADD := Kp.mk (add_any _ p a b ns HN2.out (HTT.out.below HB2.out) s hsz r HRI.out)
      have AP : Kp (∀ g, (Value.slice A2 m c2).ownBlock = some g → ¬ FG p a b g) := ⟨fun g hg hF => by have h1 := F2.out g hg; have h2 := HN.out.g.lt g hF; omega⟩
      clear o2 f2 b2 AL
      have hC : ∀ w4, Calls Tryd.prog 18 #[.agg #[.int .i64 2, .int .i64 0, .string s]] w4 fun e w' => e = .returned (.int .i64 (if okA s then 0 else 20)) ∧ Below w4.heap.size w4 w' := fun w4 => cell_any s w4 hsz
      have FIN : Kp (∀ w3 w4, IsN w3 p a b ns → Below w.heap.size w w3 → Chg (FG p a b) w2 w3 → Below w3.heap.size w3 w4 →
          (Calls Tryd.prog 11 #[.pointer (some ⟨p, 0, none⟩), .int .i64 0] w4 (CollPost w4 ns)) ∧ IsN w4 p a b ns ∧ Below w.heap.size w w4 ∧ Own w4 45 eEn (.slice A2 m c2) ns) := ⟨fun w3 w4 hn3 hb3 hc3 hb4 =>
        ⟨by have := all_any (hn3.below hb4) 0 (by omega); rw [cutE_0] at this; exact this, hn3.below hb4, bstep hb3 hb3.size hb4, (O2.out.frame hc3 (fun g hg => AP.out g hg)).below hb4⟩⟩
      by_cases h0 : addE ns s r = 0
      · have hok := addE_ok h0
        have hA : okA s = true := hok.1
        have hu : (s.toList == ([117, 110, 100, 101, 102, 105, 110, 101, 100] : List UInt8)) = false := by
          rw [beq_eq_false_iff_ne]
          exact fun e => hok.2.1 (WideShapes.bytes_inj (by rw [← ByteArray.toList_eq, e]; rfl))
        have hu2 : (s.toList != ([117, 110, 100, 101, 102, 105, 110, 101, 100] : List UInt8)) = true := by rw [bne, hu]; rfl
        have hrr : (r != r) = false := by simp
        have hss : (s.toList != s.toList) = false := by simp
        have hmm : ((m : Int) + 1 != (m : Int) + 1) = false := by simp
        have H0 := Kp.mk h0
        simp only [hA, if_true] at hC
        rw [h0] at ADD
        have hlm : Kp ((addL ns s r).length = m + 1) := ⟨by rw [len_add H0.out, HM.out]⟩
        have FA := Kp.mk (find_add OKK.out H0.out)
        clear hok h0 hA
        go_wp2_with fail
        refine ADD.out.mono ?_
        rintro e w3 ⟨rfl, h3, c3⟩
        have H3 := Kp.mk h3
        have C3 := Kp.mk c3
        have B3 := Kp.mk (chg_below HB2.out c3 HF.out HB2.out.size)
        have FD3 := Kp.mk (find_any w3 p a b _ h3 s hs2)
        rw [FA.out] at FD3
        have LN3 := Kp.mk (len_any w3 p a b _ h3)
        rw [hlm.out] at LN3
        clear h3 c3
        cases by_
        · have GN := Kp.mk (gone_any w3 p a b _ H3.out r HRI.out)
          rw [name_add OKK.out H0.out, outP_add OKK.out H0.out] at GN
          go_wp2_with (first
            | (go_at_call 16; refine FD3.out.mono ?_; rintro e w5 ⟨rfl, rfl⟩)
            | (go_at_call 9; refine LN3.out.mono ?_; rintro e w5 ⟨rfl, rfl⟩)
            | (go_at_call 15; refine GN.out.mono ?_; rintro e w5 ⟨rfl, h5, c5⟩; have H5 := Kp.mk h5; have C5 := Kp.mk (C3.out.then c5); have B5 := Kp.mk (chg_below B3.out c5 HF.out B3.out.size); clear h5 c5)
            | (go_at_call 18; refine (hC _).mono ?_; rintro e w4 ⟨rfl, b4⟩; obtain ⟨q1, q2, q3, q4⟩ := FIN.out _ w4 H5.out B5.out C5.out b4; have AL4 := Kp.mk q1; have N4 := Kp.mk q2; have BB4 := Kp.mk q3; have O4 := Kp.mk q4; clear q1 q2 q3 q4 b4)
            | (go_at_call 11; refine AL4.out.mono ?_; rintro e w7 ⟨v7, rfl, o7, f7, b7⟩; obtain ⟨A7, c7, hv7, _⟩ := o7.shape; subst hv7; have O7 := Kp.mk o7; have B7 := Kp.mk b7; rw [← HM.out]; clear o7 f7 b7)
            | (go_at_call 10; have hbq := same_eq _ ns A7 A2 c7 c2 (O7.out.src rfl) ((O4.out.below B7.out).src rfl) (by have := HM.out; omega); rw [← HM.out] at hbq; refine hbq.mono ?_; rintro e w8 ⟨rfl, b8⟩; have B8 := Kp.mk (bstep (bstep BB4.out BB4.out.size B7.out) (bstep BB4.out BB4.out.size B7.out).size b8); clear b8 hbq)
            | (go_at_call 12; refine (known_any _ (HTT.out.below B8.out)).mono ?_; rintro e w9 ⟨rfl, b9⟩; have B9 := Kp.mk (bstep B8.out B8.out.size b9); clear b9))
          go_ret
          exact ⟨rfl, B9.out⟩
        · have GN := Kp.mk (drop_any w3 p a b _ H3.out s hs2)
          rw [drop_add OKK.out H0.out, out_add H0.out] at GN
          go_wp2_with (first
            | (go_at_call 16; refine FD3.out.mono ?_; rintro e w5 ⟨rfl, rfl⟩)
            | (go_at_call 9; refine LN3.out.mono ?_; rintro e w5 ⟨rfl, rfl⟩)
            | (go_at_call 14; refine GN.out.mono ?_; rintro e w5 ⟨rfl, h5, c5⟩; have H5 := Kp.mk h5; have C5 := Kp.mk (C3.out.then c5); have B5 := Kp.mk (chg_below B3.out c5 HF.out B3.out.size); clear h5 c5)
            | (go_at_call 18; refine (hC _).mono ?_; rintro e w4 ⟨rfl, b4⟩; obtain ⟨q1, q2, q3, q4⟩ := FIN.out _ w4 H5.out B5.out C5.out b4; have AL4 := Kp.mk q1; have N4 := Kp.mk q2; have BB4 := Kp.mk q3; have O4 := Kp.mk q4; clear q1 q2 q3 q4 b4)
            | (go_at_call 11; refine AL4.out.mono ?_; rintro e w7 ⟨v7, rfl, o7, f7, b7⟩; obtain ⟨A7, c7, hv7, _⟩ := o7.shape; subst hv7; have O7 := Kp.mk o7; have B7 := Kp.mk b7; rw [← HM.out]; clear o7 f7 b7)
            | (go_at_call 10; have hbq := same_eq _ ns A7 A2 c7 c2 (O7.out.src rfl) ((O4.out.below B7.out).src rfl) (by have := HM.out; omega); rw [← HM.out] at hbq; refine hbq.mono ?_; rintro e w8 ⟨rfl, b8⟩; have B8 := Kp.mk (bstep (bstep BB4.out BB4.out.size B7.out) (bstep BB4.out BB4.out.size B7.out).size b8); clear b8 hbq)
            | (go_at_call 12; refine (known_any _ (HTT.out.below B8.out)).mono ?_; rintro e w9 ⟨rfl, b9⟩; have B9 := Kp.mk (bstep B8.out B8.out.size b9); clear b9))
          go_ret
          exact ⟨rfl, B9.out⟩
      · have H0 := Kp.mk h0
        have hel := addL_no h0
        rw [hel] at ADD
        obtain ⟨E, hE⟩ : ∃ E, E = addE ns s r := ⟨_, rfl⟩
        have HE := Kp.mk hE
        rw [← hE] at ADD h0
        have hE0 : (E == 0) = false := by simpa using h0
        clear hel h0 hE
        have ways : (okA s = true ∧ (s.toList != ([117, 110, 100, 101, 102, 105, 110, 101, 100] : List UInt8)) = true) ∨ (okA s = false ∧ E = 20) ∨ (okA s = true ∧ (s.toList != ([117, 110, 100, 101, 102, 105, 110, 101, 100] : List UInt8)) = false ∧ E = 20) := by
          cases hA : okA s
          · exact .inr (.inl ⟨rfl, by rw [HE.out]; unfold addE; rw [if_pos (.inl hA)]⟩)
          · by_cases hu : s = undefS
            · exact .inr (.inr ⟨rfl, by rw [hu, ByteArray.toList_eq]; rfl, by rw [HE.out]; unfold addE; rw [if_pos (.inr hu)]⟩)
            · refine .inl ⟨rfl, ?_⟩
              rw [bne_iff_ne]
              exact fun e => hu (WideShapes.bytes_inj (by rw [← ByteArray.toList_eq, e]; rfl))
        rcases ways with ⟨hA, hu⟩ | ⟨hA, rfl⟩ | ⟨hA, hu, rfl⟩
        · have hu3 : (s.toList == ([117, 110, 100, 101, 102, 105, 110, 101, 100] : List UInt8)) = false := by simpa using hu
          simp only [hA, if_true] at hC
          clear hA
          go_wp2_with (first
            | (go_at_call 13; refine ADD.out.mono ?_; rintro e w5 ⟨rfl, h5, c5⟩; have H5 := Kp.mk h5; have C5 := Kp.mk c5; have B5 := Kp.mk (chg_below HB2.out c5 HF.out HB2.out.size); clear h5 c5)
            | (go_at_call 18; refine (hC _).mono ?_; rintro e w4 ⟨rfl, b4⟩; obtain ⟨q1, q2, q3, q4⟩ := FIN.out _ w4 H5.out B5.out C5.out b4; have AL4 := Kp.mk q1; have N4 := Kp.mk q2; have BB4 := Kp.mk q3; have O4 := Kp.mk q4; clear q1 q2 q3 q4 b4)
            | (go_at_call 11; refine AL4.out.mono ?_; rintro e w7 ⟨v7, rfl, o7, f7, b7⟩; obtain ⟨A7, c7, hv7, _⟩ := o7.shape; subst hv7; have O7 := Kp.mk o7; have B7 := Kp.mk b7; rw [← HM.out]; clear o7 f7 b7)
            | (go_at_call 10; have hbq := same_eq _ ns A7 A2 c7 c2 (O7.out.src rfl) ((O4.out.below B7.out).src rfl) (by have := HM.out; omega); rw [← HM.out] at hbq; refine hbq.mono ?_; rintro e w8 ⟨rfl, b8⟩; have B8 := Kp.mk (bstep (bstep BB4.out BB4.out.size B7.out) (bstep BB4.out BB4.out.size B7.out).size b8); clear b8 hbq)
            | (go_at_call 12; refine (known_any _ (HTT.out.below B8.out)).mono ?_; rintro e w9 ⟨rfl, b9⟩; have B9 := Kp.mk (bstep B8.out B8.out.size b9); clear b9))
          go_ret
          exact ⟨rfl, B9.out⟩
        · simp only [hA, Bool.false_eq_true, if_false] at hC
          clear hA
          go_wp2_with (first
            | (go_at_call 13; refine ADD.out.mono ?_; rintro e w5 ⟨rfl, h5, c5⟩; have H5 := Kp.mk h5; have C5 := Kp.mk c5; have B5 := Kp.mk (chg_below HB2.out c5 HF.out HB2.out.size); clear h5 c5)
            | (go_at_call 18; refine (hC _).mono ?_; rintro e w4 ⟨rfl, b4⟩; obtain ⟨q1, q2, q3, q4⟩ := FIN.out _ w4 H5.out B5.out C5.out b4; have AL4 := Kp.mk q1; have N4 := Kp.mk q2; have BB4 := Kp.mk q3; have O4 := Kp.mk q4; clear q1 q2 q3 q4 b4)
            | (go_at_call 11; refine AL4.out.mono ?_; rintro e w7 ⟨v7, rfl, o7, f7, b7⟩; obtain ⟨A7, c7, hv7, _⟩ := o7.shape; subst hv7; have O7 := Kp.mk o7; have B7 := Kp.mk b7; rw [← HM.out]; clear o7 f7 b7)
            | (go_at_call 10; have hbq := same_eq _ ns A7 A2 c7 c2 (O7.out.src rfl) ((O4.out.below B7.out).src rfl) (by have := HM.out; omega); rw [← HM.out] at hbq; refine hbq.mono ?_; rintro e w8 ⟨rfl, b8⟩; have B8 := Kp.mk (bstep (bstep BB4.out BB4.out.size B7.out) (bstep BB4.out BB4.out.size B7.out).size b8); clear b8 hbq)
            | (go_at_call 12; refine (known_any _ (HTT.out.below B8.out)).mono ?_; rintro e w9 ⟨rfl, b9⟩; have B9 := Kp.mk (bstep B8.out B8.out.size b9); clear b9))
          go_ret
          exact ⟨rfl, B9.out⟩
        · have hu3 : (s.toList == ([117, 110, 100, 101, 102, 105, 110, 101, 100] : List UInt8)) = true := by simpa using hu
          simp only [hA, if_true] at hC
          clear hA
          go_wp2_with (first
            | (go_at_call 13; refine ADD.out.mono ?_; rintro e w5 ⟨rfl, h5, c5⟩; have H5 := Kp.mk h5; have C5 := Kp.mk c5; have B5 := Kp.mk (chg_below HB2.out c5 HF.out HB2.out.size); clear h5 c5)
            | (go_at_call 18; refine (hC _).mono ?_; rintro e w4 ⟨rfl, b4⟩; obtain ⟨q1, q2, q3, q4⟩ := FIN.out _ w4 H5.out B5.out C5.out b4; have AL4 := Kp.mk q1; have N4 := Kp.mk q2; have BB4 := Kp.mk q3; have O4 := Kp.mk q4; clear q1 q2 q3 q4 b4)
            | (go_at_call 11; refine AL4.out.mono ?_; rintro e w7 ⟨v7, rfl, o7, f7, b7⟩; obtain ⟨A7, c7, hv7, _⟩ := o7.shape; subst hv7; have O7 := Kp.mk o7; have B7 := Kp.mk b7; rw [← HM.out]; clear o7 f7 b7)
            | (go_at_call 10; have hbq := same_eq _ ns A7 A2 c7 c2 (O7.out.src rfl) ((O4.out.below B7.out).src rfl) (by have := HM.out; omega); rw [← HM.out] at hbq; refine hbq.mono ?_; rintro e w8 ⟨rfl, b8⟩; have B8 := Kp.mk (bstep (bstep BB4.out BB4.out.size B7.out) (bstep BB4.out BB4.out.size B7.out).size b8); clear b8 hbq)
            | (go_at_call 12; refine (known_any _ (HTT.out.below B8.out)).mono ?_; rintro e w9 ⟨rfl, b9⟩; have B9 := Kp.mk (bstep B8.out B8.out.size b9); clear b9))
          go_ret
          exact ⟨rfl, B9.out⟩
end Go.Proofs.YtmkfpaohlmejkaaDoor
