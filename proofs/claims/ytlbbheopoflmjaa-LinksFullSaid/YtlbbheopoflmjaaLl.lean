/- LinksPlays walked: it answers true; its bounds stand in the statement. -/
import Derived.Test.YtlbbheopoflmjaaAk
import Derived.Test.YtlbbheopoflmjaaLe
namespace Go.Proofs.Ytlbbheopoflmjaa
open Go.RowKit

theorem peer_linked {ns : List NB} {last : Int} (h : GOk ns last) {a x : Int} (hx : Nb (sn ns) a x) : linked ns a x = true := by
  obtain ⟨b, hb, h0, h1⟩ := hx
  have hg := (h.goodL b hb).2.2
  have hm : pairB a x = b := by
    obtain ⟨ba, bb, br⟩ := b
    simp only at h0 h1 hg
    unfold pairB
    rcases h1 with ⟨h1, h2⟩ | ⟨h1, h2⟩ <;> (congr 1 <;> omega)
  have : (look (linksE ns) (min a x, max a x)).isSome = true := (look_isSome_links h a x).2 (by rw [hm]; exact hb)
  exact this
theorem peer_64 {ns : List NB} {last : Int} (h : GOk ns last) {a x : Int} (hx : Nb (sn ns) a x) : In64 x := by
  obtain ⟨b, hb, _, h1⟩ := hx
  have hg := h.goodL b hb
  have g1 : 1 ≤ b.a := hg.1.1
  have g2 : b.a ≤ 1099511627776 := hg.1.2
  have g3 : 1 ≤ b.b := hg.2.1.1
  have g4 : b.b ≤ 1099511627776 := hg.2.1.2
  rcases h1 with ⟨_, h1⟩ | ⟨_, h1⟩ <;> (rw [h1]; exact ⟨by omega, by omega⟩)
set_option maxRecDepth 100000 in
set_option maxHeartbeats 16000000 in
theorem linksPlays_any (w : World) (ops : List OpM) (a b : Int) (A : Option Addr) (c : Nat) (hs : Src w eOp A c ops) (hr : ∀ o ∈ ops, In64 o.ref) (ha : In64 a) (hb : In64 b) (hn : ops.length ≤ 9000000000000) :
    Calls Try.prog 7 #[.slice A ops.length c, .int .i64 a, .int .i64 b] w fun e w' => e = .returned (.bool true) ∧ Below w.heap.size w w' := by
  have HS := Kp.mk hs
  have HR := Kp.mk hr
  have HA := Kp.mk ha
  have HBb := Kp.mk hb
  clear hs hr ha hb
  go_enter Try.func7, Try.ntmps7
  go_wp2_with fail
  refine (new_any w).mono ?_
  rintro e w1 ⟨p, bm, lm, rm, rfl, h1, hf, hb1⟩
  have T0 := Kp.mk (two_new h1 hf hb1)
  obtain ⟨q, hq⟩ : ∃ q, q = w1.heap.size := ⟨_, rfl⟩
  rw [← hq] at T0
  have HQ := Kp.mk hq
  clear h1 hf hb1 hq
  go_upto_region 5 with fail
  rw [← HQ.out]
  go_loopw [10, 20] (fun _ i wr => ∃ (k : Nat) (lv : Value) (ns : List NB) (last : Int), k ≤ ops.length ∧ i = .int .i64 k ∧ Kp (Two w wr p bm lm rm q lv ns last) ∧ Kp (last ≤ k)) (fun _ i _ => ops.length - (intOf i).toNat)
  case atStart => exact ⟨0, _, _, _, Nat.zero_le _, rfl, T0, ⟨Int.le_refl _⟩⟩
  case round =>
    clear T0
    obtain ⟨k, lv, ns, last, hk, rfl, hT, TN⟩ := hrel
    by_cases hlt : k < ops.length
    · cases A with
      | none => have := (HS.out.none rfl).1; subst this; simp at hlt
      | some x =>
        obtain ⟨g, o, rfl⟩ := HS.out.addr (by omega)
        have hs := HS.out.below hT.out.bel
        obtain ⟨e0, e1, e2, e3⟩ := op_cells hs k hlt
        have hrx := HR.out ops[k] (List.getElem_mem hlt)
        obtain ⟨x, hx⟩ : ∃ x, x = ops[k] := ⟨_, rfl⟩
        rw [← hx] at e0 e1 e2 e3 hrx
        have k0 : (0 : Int) ≤ (k : Int) := by omega
        have k1 : (k : Int) < (ops.length : Int) := by omega
        have hb2 : Below wr.heap.size wr (wr.alloc (.cells #[.int .i64 x.kind, .int .i64 x.a, .int .i64 x.b, .int .i64 x.ref] 23)) := (Below.refl _ _).alloc (Nat.le_refl _) _
        have STP := Kp.mk (step_any w _ p bm lm rm q lv ns last x ((hT.out.below hb2).below (Below.refl _ _).drew) (by have := TN.out; omega) hrx)
        have X2 := Kp.mk (blk_new wr (.cells #[.int .i64 x.kind, .int .i64 x.a, .int .i64 x.b, .int .i64 x.ref] 23))
        have HLE := Kp.mk (lastOf_le ns last x)
        clear hs hx hb2 hrx
        go_upto_region 7 with fail
        refine R_begin 3 (fun w9 => w9.cell? ⟨wr.heap.size, 0, none⟩ = some (.int .i64 x.kind) ∧ w9.cell? ⟨wr.heap.size, 1, none⟩ = some (.int .i64 x.a) ∧ w9.cell? ⟨wr.heap.size, 2, none⟩ = some (.int .i64 x.b) ∧ w9.cell? ⟨wr.heap.size, 3, none⟩ = some (.int .i64 x.ref)) (by kernel_rfl) ⟨blk_c X2.out 0, blk_c X2.out 1, blk_c X2.out 2, blk_c X2.out 3⟩ (fun HP0 => ?_)
        refine R_pure 0 rfl (by kernel_rfl) HP0 ?_
        apply Exists.intro
        refine ⟨fun _ _ _ h => h, .inl ⟨by kernel_rfl, fun w9 h9 => ?_⟩, fun HP1 => ?_⟩
        · clear h9; go_simp; first | done | rfl
        clear HP0
        refine R_pure 1 rfl (by kernel_rfl) HP1 ?_
        apply Exists.intro
        refine ⟨fun _ _ _ h => h, .inl ⟨by kernel_rfl, fun w9 h9 => ?_⟩, fun HP2 => ?_⟩
        · clear h9; go_simp; first | done | rfl
        clear HP1
        refine R_take 2 rfl (by kernel_rfl) HP2 ?_
        apply Exists.intro
        refine ⟨fun _ _ _ h => h, .inl ⟨by kernel_rfl, fun w9 h9 => ?_⟩, fun HP3 => ?_⟩
        · obtain ⟨s1, s2, s3, s4⟩ := h9; go_simp; first | done | rfl
        clear HP2
        refine R_all [3] (by kernel_rfl) ?_
        refine AllR.cons (i := 3) rfl (fun K9 HK9 => ?_) ?_
        · go_simp
          refine STP.out.mono ?_
          rintro e w5 ⟨rfl, lv', h5⟩
          have H5 := Kp.mk h5
          obtain ⟨Ad, cd, hvd, q5⟩ := h5.d.sh
          obtain ⟨N, hN⟩ : ∃ N, N = (sn (nsOf ns last x)).length := ⟨_, rfl⟩
          have hNl : Kp ((nsOf ns last x).length = N) := ⟨by rw [hN, List.length_map]⟩
          rw [← hN] at q5
          have hdd : ((N : Int) != (N : Int)) = false := by simp
          have HLn := Kp.mk (len_any w5 p bm lm rm _ _ h5.g)
          have ql5 := h5.d.lt
          clear h5 hvd hN
          go_simp
          refine HK9.out _ _ (.inl (by kernel_rfl)) (fun HP4 => ?_)
          clear HK9 K9
          refine R_pure 4 rfl (by kernel_rfl) HP4 ?_
          apply Exists.intro
          refine ⟨fun _ _ _ h => h, .inl ⟨by kernel_rfl, fun w9 h9 => ?_⟩, fun HP5 => ?_⟩
          · clear h9; go_simp; first | done | rfl
          clear HP4
          refine R_pure 5 rfl (by kernel_rfl) HP5 ?_
          apply Exists.intro
          refine ⟨fun _ _ _ h => h, .inl ⟨by kernel_rfl, fun w9 h9 => ?_⟩, fun HP6 => ?_⟩
          · clear h9; go_simp; first | done | rfl
          clear HP5
          refine R_pure 6 rfl (by kernel_rfl) HP6 ?_
          apply Exists.intro
          refine ⟨fun _ _ _ h => h, .inl ⟨by kernel_rfl, fun w9 h9 => ?_⟩, fun HP7 => ?_⟩
          · clear h9; go_simp; first | done | rfl
          clear HP6
          refine R_pure 8 rfl (by kernel_rfl) HP7 ?_
          apply Exists.intro
          refine ⟨fun _ _ _ h => h, .inl ⟨by kernel_rfl, fun w9 h9 => ?_⟩, fun HP8 => ?_⟩
          · clear h9; go_simp; first | done | rfl
          clear HP7
          refine R_pure 9 rfl (by kernel_rfl) HP8 ?_
          apply Exists.intro
          refine ⟨fun _ _ _ h => h, .inl ⟨by kernel_rfl, fun w9 h9 => ?_⟩, fun HP9 => ?_⟩
          · clear h9; go_simp; first | done | rfl
          clear HP8
          refine R_pure 10 rfl (by kernel_rfl) HP9 ?_
          apply Exists.intro
          refine ⟨fun _ _ _ h => h, .inl ⟨by kernel_rfl, fun w9 h9 => ?_⟩, fun HP10 => ?_⟩
          · clear h9; go_simp; first | done | rfl
          clear HP9
          refine R_all [7, 11] (by kernel_rfl) ?_
          refine AllR.cons (i := 7) rfl (fun K9 HK9 => ?_) ?_
          · go_simp
            refine HLn.out.mono ?_
            rintro e w6 ⟨rfl, rfl⟩
            rw [hNl.out]
            go_simp
            refine HK9.out _ _ (.inl (by kernel_rfl)) (fun HP11 => ?_)
            clear HK9 K9
            refine R_all [11] (by kernel_rfl) ?_
            refine AllR.cons (i := 11) rfl (fun K9 HK9 => ?_) ?_
            · go_simp
              refine HK9.out _ _ (.inl (by kernel_rfl)) (fun HP12 => ?_)
              clear HK9 K9
              refine R_pure 12 rfl (by kernel_rfl) HP12 ?_
              apply Exists.intro
              refine ⟨fun _ _ _ h => h, .inl ⟨by kernel_rfl, fun w9 h9 => ?_⟩, fun HP13 => ?_⟩
              · clear h9; go_simp; first | done | rfl
              clear HP12
              refine R_pure 13 rfl (by kernel_rfl) HP13 ?_
              apply Exists.intro
              refine ⟨fun _ _ _ h => h, .inl ⟨by kernel_rfl, fun w9 h9 => ?_⟩, fun HP14 => ?_⟩
              · clear h9; go_simp; first | done | rfl
              clear HP13
              refine R_pure 14 rfl (by kernel_rfl) HP14 ?_
              apply Exists.intro
              refine ⟨fun _ _ _ h => h, .inl ⟨by kernel_rfl, fun w9 h9 => ?_⟩, fun HP15 => ?_⟩
              · clear h9; go_simp; first | done | rfl
              clear HP14
              refine R_done (by kernel_rfl) ?_
              go_wp2
              go_roundw
              case rel => exact ⟨k + 1, lv', _, _, by omega, by go_num, H5, ⟨by have := HLE.out.1; have := TN.out; omega⟩⟩
              case measure => simp [intOf]; omega
            exact AllR.nil
          refine AllR.cons (i := 11) rfl (fun K9 HK9 => ?_) ?_
          · go_simp
            refine HK9.out _ _ (.inl (by kernel_rfl)) (fun HP16 => ?_)
            clear HK9 K9
            refine R_pure 12 rfl (by kernel_rfl) HP16 ?_
            apply Exists.intro
            refine ⟨fun _ _ _ h => h, .inl ⟨by kernel_rfl, fun w9 h9 => ?_⟩, fun HP17 => ?_⟩
            · clear h9; go_simp; first | done | rfl
            clear HP16
            refine R_all [7] (by kernel_rfl) ?_
            refine AllR.cons (i := 7) rfl (fun K9 HK9 => ?_) ?_
            · go_simp
              refine HLn.out.mono ?_
              rintro e w6 ⟨rfl, rfl⟩
              rw [hNl.out]
              go_simp
              refine HK9.out _ _ (.inl (by kernel_rfl)) (fun HP18 => ?_)
              clear HK9 K9
              refine R_pure 13 rfl (by kernel_rfl) HP18 ?_
              apply Exists.intro
              refine ⟨fun _ _ _ h => h, .inl ⟨by kernel_rfl, fun w9 h9 => ?_⟩, fun HP19 => ?_⟩
              · clear h9; go_simp; first | done | rfl
              clear HP18
              refine R_pure 14 rfl (by kernel_rfl) HP19 ?_
              apply Exists.intro
              refine ⟨fun _ _ _ h => h, .inl ⟨by kernel_rfl, fun w9 h9 => ?_⟩, fun HP20 => ?_⟩
              · clear h9; go_simp; first | done | rfl
              clear HP19
              refine R_done (by kernel_rfl) ?_
              go_wp2
              go_roundw
              case rel => exact ⟨k + 1, lv', _, _, by omega, by go_num, H5, ⟨by have := HLE.out.1; have := TN.out; omega⟩⟩
              case measure => simp [intOf]; omega
            exact AllR.nil
          exact AllR.nil
        exact AllR.nil
    · obtain rfl : k = ops.length := by omega
      have T1 := Kp.mk hT.out
      have HL : Kp (last ≤ 900000000000000000) := ⟨by have := TN.out; omega⟩
      have HN := Kp.mk hT.out.g.ok.n1024
      have OKK := Kp.mk hT.out.g.ok
      clear hT TN
      obtain ⟨Ad, cd, hvd, q1⟩ := T1.out.d.sh
      obtain ⟨N, hN⟩ : ∃ N, N = (sn ns).length := ⟨_, rfl⟩
      have HNN := Kp.mk hN
      have HVD := Kp.mk hvd
      rw [← hN] at q1
      have ql1 := T1.out.d.lt
      obtain ⟨W1, hW1⟩ : ∃ W, W = wr := ⟨_, rfl⟩
      have FIN : Kp (∀ w8, Below wr.heap.size wr w8 → True) := ⟨fun _ _ => trivial⟩
      clear hN hvd hW1
      by_cases h2 : 1 < N
      · have hd : decide ((N : Int) > 1) = true := by simp; omega
        obtain ⟨g9, rfl⟩ : ∃ g, Ad = some ⟨g, 0, none⟩ := by
          obtain ⟨A9, c9, hv9, _, _, h0, h1⟩ := T1.out.d.own.shape
          rw [HVD.out] at hv9
          injection hv9 with e1 _ _
          subst e1
          cases Ad with
          | none => have := (h0 rfl).1; have h2 := HNN.out; rw [this] at h2; simp at h2; omega
          | some y => obtain ⟨g, rfl⟩ := h1 y rfl; exact ⟨g, rfl⟩
        have hNc : N ≤ cd := by
          obtain ⟨A9, c9, hv9, h3, _⟩ := T1.out.d.own.shape
          rw [HVD.out] at hv9
          injection hv9 with _ _ e3
          subst e3
          have := HNN.out; omega
        have n1 : (1 : Int) ≤ (cd : Int) := by omega
        have n2 : 1 ≤ cd := by omega
        have EV := Kp.mk (every_1 (T1.out.g.below (Below.refl _ wr).drew) HL.out (by have := HNN.out; omega))
        have hO := T1.out.d.own
        rw [HVD.out, ← HNN.out] at hO
        have HO := Kp.mk hO
        have ht1 : Kp (((sn ns).take 1).length = 1) := ⟨by rw [List.length_take]; have := HNN.out; omega⟩
        clear hO
        go_upto_region 10 with fail
        refine R_begin 999 (fun w9 => w9.cell? ⟨q, 0, none⟩ = some (.slice (some ⟨g9, 0, none⟩) N cd)) (by kernel_rfl) q1 (fun HP0 => ?_)
        refine R_pure 0 rfl (by kernel_rfl) HP0 ?_
        apply Exists.intro
        refine ⟨fun _ _ _ h => h, .inl ⟨by kernel_rfl, fun w9 h9 => ?_⟩, fun HP1 => ?_⟩
        · clear h9; go_simp; first | done | rfl
        clear HP0
        refine R_pure 1 rfl (by kernel_rfl) HP1 ?_
        apply Exists.intro
        refine ⟨fun _ _ _ h => h, .inl ⟨by kernel_rfl, fun w9 h9 => ?_⟩, fun HP2 => ?_⟩
        · clear h9; go_simp; first | done | rfl
        clear HP1
        refine R_pure 2 rfl (by kernel_rfl) HP2 ?_
        apply Exists.intro
        refine ⟨fun _ _ _ h => h, .inl ⟨by kernel_rfl, fun w9 h9 => ?_⟩, fun HP3 => ?_⟩
        · clear h9; go_simp; first | done | rfl
        clear HP2
        refine R_take 3 rfl (by kernel_rfl) HP3 ?_
        apply Exists.intro
        refine ⟨fun _ _ _ h => h, .inl ⟨by kernel_rfl, fun w9 h9 => ?_⟩, fun HP4 => ?_⟩
        · obtain s1 := h9; go_simp; first | done | rfl
        clear HP3
        refine R_pure 4 rfl (by kernel_rfl) HP4 ?_
        apply Exists.intro
        refine ⟨fun _ _ _ h => h, .inl ⟨by kernel_rfl, fun w9 h9 => ?_⟩, fun HP5 => ?_⟩
        · clear h9; go_simp; first | done | rfl
        clear HP4
        refine R_pure 5 rfl (by kernel_rfl) HP5 ?_
        apply Exists.intro
        refine ⟨fun _ _ _ h => h, .inl ⟨by kernel_rfl, fun w9 h9 => ?_⟩, fun HP6 => ?_⟩
        · clear h9; go_simp; first | done | rfl
        clear HP5
        refine R_pure 6 rfl (by kernel_rfl) HP6 ?_
        apply Exists.intro
        refine ⟨fun _ _ _ h => h, .inl ⟨by kernel_rfl, fun w9 h9 => ?_⟩, fun HP7 => ?_⟩
        · clear h9; go_simp; first | done | rfl
        clear HP6
        refine R_pure 7 rfl (by kernel_rfl) HP7 ?_
        apply Exists.intro
        refine ⟨fun _ _ _ h => h, .inl ⟨by kernel_rfl, fun w9 h9 => ?_⟩, fun HP8 => ?_⟩
        · clear h9; go_simp; first | done | rfl
        clear HP7
        refine R_pure 9 rfl (by kernel_rfl) HP8 ?_
        apply Exists.intro
        refine ⟨fun _ _ _ h => h, .inl ⟨by kernel_rfl, fun w9 h9 => ?_⟩, fun HP9 => ?_⟩
        · clear h9; go_simp; first | done | rfl
        clear HP8
        refine R_pure 10 rfl (by kernel_rfl) HP9 ?_
        apply Exists.intro
        refine ⟨fun _ _ _ h => h, .inl ⟨by kernel_rfl, fun w9 h9 => ?_⟩, fun HP10 => ?_⟩
        · clear h9; go_simp; first | done | rfl
        clear HP9
        refine R_pure 11 rfl (by kernel_rfl) HP10 ?_
        apply Exists.intro
        refine ⟨fun _ _ _ h => h, .inl ⟨by kernel_rfl, fun w9 h9 => ?_⟩, fun HP11 => ?_⟩
        · clear h9; go_simp; first | done | rfl
        clear HP10
        refine R_take 12 rfl (by kernel_rfl) HP11 ?_
        apply Exists.intro
        refine ⟨fun _ _ _ h => h, .inl ⟨by kernel_rfl, fun w9 h9 => ?_⟩, fun HP12 => ?_⟩
        · obtain s1 := h9; go_simp; first | done | rfl
        clear HP11
        refine R_pure 13 rfl (by kernel_rfl) HP12 ?_
        apply Exists.intro
        refine ⟨fun _ _ _ h => h, .inl ⟨by kernel_rfl, fun w9 h9 => ?_⟩, fun HP13 => ?_⟩
        · clear h9; go_simp; first | done | rfl
        clear HP12
        refine R_all [8] (by kernel_rfl) ?_
        refine AllR.cons (i := 8) rfl (fun K9 HK9 => ?_) ?_
        · go_simp
          refine EV.out.mono ?_
          rintro e w5 ⟨v5, rfl, o5, f5, b5⟩
          obtain ⟨A5, c5, hv5, _⟩ := o5.shape
          subst hv5
          have O5 := Kp.mk o5
          have B5 := Kp.mk ((Below.refl _ wr).drew.trans b5)
          have q5 := (B5.out.cell (p := ⟨q, 0, none⟩) ql1).trans q1
          rw [ht1.out]
          clear o5 f5 b5
          go_simp
          refine HK9.out _ _ (.inr q5) (fun HP14 => ?_)
          clear HK9 K9
          refine R_all [14] (by kernel_rfl) ?_
          refine AllR.cons (i := 14) rfl (fun K9 HK9 => ?_) ?_
          · go_simp
            have hbq := bonds_eq w5 ((sn ns).take 1) A5 (some ⟨g9, 0, none⟩) c5 cd (O5.out.src rfl) (((HO.out.below B5.out).src rfl).take 1) (by rw [ht1.out]; omega)
            rw [ht1.out] at hbq
            refine hbq.mono ?_
            rintro e w6 ⟨rfl, b6⟩
            have B6 := Kp.mk (bstep B5.out B5.out.size b6)
            have q6 := (B6.out.cell (p := ⟨q, 0, none⟩) ql1).trans q1
            clear b6 hbq
            go_simp
            refine HK9.out _ _ (.inr q6) (fun HP15 => ?_)
            clear HK9 K9
            refine R_pure 15 rfl (by kernel_rfl) HP15 ?_
            apply Exists.intro
            refine ⟨fun _ _ _ h => h, .inl ⟨by kernel_rfl, fun w9 h9 => ?_⟩, fun HP16 => ?_⟩
            · clear h9; go_simp; first | done | rfl
            clear HP15
            refine R_pure 16 rfl (by kernel_rfl) HP16 ?_
            apply Exists.intro
            refine ⟨fun _ _ _ h => h, .inl ⟨by kernel_rfl, fun w9 h9 => ?_⟩, fun HP17 => ?_⟩
            · clear h9; go_simp; first | done | rfl
            clear HP16
            refine R_done (by kernel_rfl) ?_
            obtain ⟨wz, hwz⟩ : ∃ z, z = w6 := ⟨_, rfl⟩
            rw [← hwz]
            have TZ : Kp (Two w wz p bm lm rm q lv ns last) := ⟨by rw [hwz]; exact T1.out.below B6.out⟩
            have qz := TZ.out.d.c0
            rw [HVD.out, ← HNN.out] at qz
            have qlz := TZ.out.d.lt
            clear hwz q1 ql1
            go_wp2_with fail
            refine (peersC sortC TZ.out.g (by have := HL.out; omega) a).mono ?_
            rintro e wp ⟨vp, S, rfl, op_, fp, bp, sp⟩
            obtain ⟨Ap, cp, hvp, _⟩ := op_.shape
            subst hvp
            have OP := Kp.mk op_
            have SP := Kp.mk sp
            have TP := Kp.mk (TZ.out.below bp)
            have hSl : S.length ≤ 3000 := by
              have := nodup_len sp.nodup (m := uni (sn ns) a) (fun y hy => Nb.uni a ((sp.2 y).1 hy))
              rw [uni_len] at this
              have := HN.out
              omega
            obtain ⟨m, hm⟩ : ∃ m, m = S.length := ⟨_, rfl⟩
            rw [← hm] at OP hSl ⊢
            have HM := Kp.mk hm
            clear op_ fp bp sp hm
            go_wp2_with fail
            go_loopw [12, 61] (fun _ i wi => ∃ (j : Nat), j ≤ m ∧ i = .int .i64 j ∧ Kp (Below wp.heap.size wp wi)) (fun _ i _ => m - (intOf i).toNat)
            case atStart => exact ⟨0, Nat.zero_le _, rfl, ⟨Below.refl _ _⟩⟩
            case round =>
              obtain ⟨j, hj, rfl, HBj⟩ := hrel
              by_cases hlt2 : j < m
              · obtain ⟨A9, c9, hv9, _, _, h0, h1⟩ := OP.out.shape
                obtain ⟨gp, rfl⟩ : ∃ g, Ap = some ⟨g, 0, none⟩ := by
                  injection hv9 with e1 _ _
                  subst e1
                  cases Ap with
                  | none => have := (h0 rfl).1; have h2 := HM.out; rw [this] at h2; simp at h2; omega
                  | some y => obtain ⟨g, rfl⟩ := h1 y rfl; exact ⟨g, rfl⟩
                clear hv9 h0 h1
                have hmt : j < S.length := by have := HM.out; omega
                have hcy := (OP.out.below HBj.out).elem j 0 hmt (by decide)
                have hmy : S[j] ∈ S := List.getElem_mem hmt
                obtain ⟨y, hye⟩ : ∃ y, y = S[j] := ⟨_, rfl⟩
                rw [← hye] at hcy hmy
                have hcy' : wr.cell? ⟨gp, j, none⟩ = some (.int .i64 y) := by simpa [eI64] using hcy
                have hnb := (SP.out.2 y).1 hmy
                have LK := Kp.mk (linked_any wr p bm lm rm ns last a y (TP.out.below HBj.out).g HA.out (peer_64 OKK.out hnb))
                rw [peer_linked OKK.out hnb] at LK
                have j0 : (0 : Int) ≤ (j : Int) := by omega
                have j1 : (j : Int) < (m : Int) := by omega
                clear hye hmt hmy hcy hnb
                go_wp2_with (go_at_call 26; refine LK.out.mono ?_; rintro e wq ⟨rfl, bq⟩; have BQ := Kp.mk (bstep HBj.out HBj.out.size bq); clear bq)
                go_roundw
                case rel => exact ⟨j + 1, by omega, by go_num, BQ⟩
                case measure => simp [intOf]; omega
              · obtain rfl : j = m := by omega
                have TR := Kp.mk (TP.out.below HBj.out)
                have qr := TR.out.d.c0
                rw [HVD.out, ← HNN.out] at qr
                have qlr := TR.out.d.lt
                have EA := Kp.mk (every_all (TR.out.g.below (Below.refl _ wr).drew) HL.out)
                rw [← HNN.out] at HN
                clear qz qlz
                go_upto_region 18 with fail
                refine R_begin 999 (fun w9 => w9.cell? ⟨q, 0, none⟩ = some (.slice (some ⟨g9, 0, none⟩) N cd)) (by kernel_rfl) qr (fun HP0 => ?_)
                refine R_pure 0 rfl (by kernel_rfl) HP0 ?_
                apply Exists.intro
                refine ⟨fun _ _ _ h => h, .inl ⟨by kernel_rfl, fun w9 h9 => ?_⟩, fun HP1 => ?_⟩
                · clear h9; go_simp; first | done | rfl
                clear HP0
                refine R_pure 2 rfl (by kernel_rfl) HP1 ?_
                apply Exists.intro
                refine ⟨fun _ _ _ h => h, .inl ⟨by kernel_rfl, fun w9 h9 => ?_⟩, fun HP2 => ?_⟩
                · clear h9; go_simp; first | done | rfl
                clear HP1
                refine R_pure 3 rfl (by kernel_rfl) HP2 ?_
                apply Exists.intro
                refine ⟨fun _ _ _ h => h, .inl ⟨by kernel_rfl, fun w9 h9 => ?_⟩, fun HP3 => ?_⟩
                · clear h9; go_simp; first | done | rfl
                clear HP2
                refine R_pure 4 rfl (by kernel_rfl) HP3 ?_
                apply Exists.intro
                refine ⟨fun _ _ _ h => h, .inl ⟨by kernel_rfl, fun w9 h9 => ?_⟩, fun HP4 => ?_⟩
                · clear h9; go_simp; first | done | rfl
                clear HP3
                refine R_take 5 rfl (by kernel_rfl) HP4 ?_
                apply Exists.intro
                refine ⟨fun _ _ _ h => h, .inl ⟨by kernel_rfl, fun w9 h9 => ?_⟩, fun HP5 => ?_⟩
                · obtain s1 := h9; go_simp; first | done | rfl
                clear HP4
                refine R_all [1] (by kernel_rfl) ?_
                refine AllR.cons (i := 1) rfl (fun K9 HK9 => ?_) ?_
                · go_simp
                  refine EA.out.mono ?_
                  rintro e wa ⟨va, rfl, oa, fa, ba⟩
                  obtain ⟨Aa, ca, hva, _⟩ := oa.shape
                  subst hva
                  have OA := Kp.mk oa
                  have BA := Kp.mk ((Below.refl _ wr).drew.trans ba)
                  have qa := (BA.out.cell (p := ⟨q, 0, none⟩) qlr).trans qr
                  rw [← HNN.out]
                  clear oa fa ba
                  go_simp
                  refine HK9.out _ _ (.inr qa) (fun HP6 => ?_)
                  clear HK9 K9
                  refine R_all [6] (by kernel_rfl) ?_
                  refine AllR.cons (i := 6) rfl (fun K9 HK9 => ?_) ?_
                  · go_simp
                    have hbq := bonds_eq wa (sn ns) Aa (some ⟨g9, 0, none⟩) ca cd (OA.out.src rfl) ((TR.out.below BA.out).d.own.src (by rw [HVD.out])) (by have := HN.out; have := HNN.out; omega)
                    rw [← HNN.out] at hbq
                    refine hbq.mono ?_
                    rintro e wb ⟨rfl, bb⟩
                    have BB := Kp.mk (bstep BA.out BA.out.size bb)
                    have qb := (BB.out.cell (p := ⟨q, 0, none⟩) qlr).trans qr
                    clear bb hbq
                    go_simp
                    refine HK9.out _ _ (.inr qb) (fun HP7 => ?_)
                    clear HK9 K9
                    refine R_pure 7 rfl (by kernel_rfl) HP7 ?_
                    apply Exists.intro
                    refine ⟨fun _ _ _ h => h, .inl ⟨by kernel_rfl, fun w9 h9 => ?_⟩, fun HP8 => ?_⟩
                    · clear h9; go_simp; first | done | rfl
                    clear HP7
                    refine R_pure 8 rfl (by kernel_rfl) HP8 ?_
                    apply Exists.intro
                    refine ⟨fun _ _ _ h => h, .inl ⟨by kernel_rfl, fun w9 h9 => ?_⟩, fun HP9 => ?_⟩
                    · clear h9; go_simp; first | done | rfl
                    clear HP8
                    refine R_pure 9 rfl (by kernel_rfl) HP9 ?_
                    apply Exists.intro
                    refine ⟨fun _ _ _ h => h, .inl ⟨by kernel_rfl, fun w9 h9 => ?_⟩, fun HP10 => ?_⟩
                    · clear h9; go_simp; first | done | rfl
                    clear HP9
                    refine R_pure 10 rfl (by kernel_rfl) HP10 ?_
                    apply Exists.intro
                    refine ⟨fun _ _ _ h => h, .inl ⟨by kernel_rfl, fun w9 h9 => ?_⟩, fun HP11 => ?_⟩
                    · clear h9; go_simp; first | done | rfl
                    clear HP10
                    refine R_pure 11 rfl (by kernel_rfl) HP11 ?_
                    apply Exists.intro
                    refine ⟨fun _ _ _ h => h, .inl ⟨by kernel_rfl, fun w9 h9 => ?_⟩, fun HP12 => ?_⟩
                    · clear h9; go_simp; first | done | rfl
                    clear HP11
                    refine R_all [12] (by kernel_rfl) ?_
                    refine AllR.cons (i := 12) rfl (fun K9 HK9 => ?_) ?_
                    · go_simp
                      refine (asked_any (TR.out.below BB.out) HL.out a b HA.out HBb.out).mono ?_
                      rintro e wc ⟨rfl, bc⟩
                      have BC := Kp.mk (bstep BB.out BB.out.size bc)
                      have qc := (BC.out.cell (p := ⟨q, 0, none⟩) qlr).trans qr
                      clear bc
                      go_simp
                      refine HK9.out _ _ (.inr qc) (fun HP13 => ?_)
                      clear HK9 K9
                      refine R_pure 13 rfl (by kernel_rfl) HP13 ?_
                      apply Exists.intro
                      refine ⟨fun _ _ _ h => h, .inl ⟨by kernel_rfl, fun w9 h9 => ?_⟩, fun HP14 => ?_⟩
                      · clear h9; go_simp; first | done | rfl
                      clear HP13
                      refine R_pure 14 rfl (by kernel_rfl) HP14 ?_
                      apply Exists.intro
                      refine ⟨fun _ _ _ h => h, .inl ⟨by kernel_rfl, fun w9 h9 => ?_⟩, fun HP15 => ?_⟩
                      · clear h9; go_simp; first | done | rfl
                      clear HP14
                      refine R_pure 15 rfl (by kernel_rfl) HP15 ?_
                      apply Exists.intro
                      refine ⟨fun _ _ _ h => h, .inl ⟨by kernel_rfl, fun w9 h9 => ?_⟩, fun HP16 => ?_⟩
                      · clear h9; go_simp; first | done | rfl
                      clear HP15
                      refine R_pure 16 rfl (by kernel_rfl) HP16 ?_
                      apply Exists.intro
                      refine ⟨fun _ _ _ h => h, .inl ⟨by kernel_rfl, fun w9 h9 => ?_⟩, fun HP17 => ?_⟩
                      · clear h9; go_simp; first | done | rfl
                      clear HP16
                      refine R_pure 17 rfl (by kernel_rfl) HP17 ?_
                      apply Exists.intro
                      refine ⟨fun _ _ _ h => h, .inl ⟨by kernel_rfl, fun w9 h9 => ?_⟩, fun HP18 => ?_⟩
                      · clear h9; go_simp; first | done | rfl
                      clear HP17
                      refine R_pure 18 rfl (by kernel_rfl) HP18 ?_
                      apply Exists.intro
                      refine ⟨fun _ _ _ h => h, .inl ⟨by kernel_rfl, fun w9 h9 => ?_⟩, fun HP19 => ?_⟩
                      · clear h9; go_simp; first | done | rfl
                      clear HP18
                      refine R_all [19] (by kernel_rfl) ?_
                      refine AllR.cons (i := 19) rfl (fun K9 HK9 => ?_) ?_
                      · go_simp
                        refine (asked_any (TR.out.below BC.out) HL.out b a HBb.out HA.out).mono ?_
                        rintro e wd ⟨rfl, bd⟩
                        have BD := Kp.mk (bstep BC.out BC.out.size bd)
                        have qd := (BD.out.cell (p := ⟨q, 0, none⟩) qlr).trans qr
                        clear bd
                        go_simp
                        refine HK9.out _ _ (.inr qd) (fun HP20 => ?_)
                        clear HK9 K9
                        refine R_pure 20 rfl (by kernel_rfl) HP20 ?_
                        apply Exists.intro
                        refine ⟨fun _ _ _ h => h, .inl ⟨by kernel_rfl, fun w9 h9 => ?_⟩, fun HP21 => ?_⟩
                        · clear h9; go_simp; first | done | rfl
                        clear HP20
                        refine R_pure 21 rfl (by kernel_rfl) HP21 ?_
                        apply Exists.intro
                        refine ⟨fun _ _ _ h => h, .inl ⟨by kernel_rfl, fun w9 h9 => ?_⟩, fun HP22 => ?_⟩
                        · clear h9; go_simp; first | done | rfl
                        clear HP21
                        refine R_all [22] (by kernel_rfl) ?_
                        refine AllR.cons (i := 22) rfl (fun K9 HK9 => ?_) ?_
                        · go_simp
                          refine (awake_any wd).mono ?_
                          rintro e we ⟨rfl, be⟩
                          have BE := Kp.mk (bstep BD.out BD.out.size be)
                          have qe := (BE.out.cell (p := ⟨q, 0, none⟩) qlr).trans qr
                          clear be
                          go_simp
                          refine HK9.out _ _ (.inr qe) (fun HP23 => ?_)
                          clear HK9 K9
                          refine R_pure 23 rfl (by kernel_rfl) HP23 ?_
                          apply Exists.intro
                          refine ⟨fun _ _ _ h => h, .inl ⟨by kernel_rfl, fun w9 h9 => ?_⟩, fun HP24 => ?_⟩
                          · clear h9; go_simp; first | done | rfl
                          clear HP23
                          refine R_pure 24 rfl (by kernel_rfl) HP24 ?_
                          apply Exists.intro
                          refine ⟨fun _ _ _ h => h, .inl ⟨by kernel_rfl, fun w9 h9 => ?_⟩, fun HP25 => ?_⟩
                          · clear h9; go_simp; first | done | rfl
                          clear HP24
                          refine R_done (by kernel_rfl) ?_
                          go_wp2
                          go_ret
                          exact ⟨rfl, bstep TR.out.bel TR.out.bel.size BE.out⟩
                        exact AllR.nil
                      exact AllR.nil
                    exact AllR.nil
                  exact AllR.nil
                exact AllR.nil
          exact AllR.nil
        exact AllR.nil
      · have hd : decide ((N : Int) > 1) = false := by simp; omega
        go_upto_region 10 with fail
        go_quiet (fail)
        obtain ⟨wz, hwz⟩ : ∃ z, z = (wr.drewN nq) := ⟨_, rfl⟩
        rw [← hwz]
        have TZ : Kp (Two w wz p bm lm rm q lv ns last) := ⟨by rw [hwz]; exact T1.out.below (below_drewN _ _)⟩
        have qz := TZ.out.d.c0
        rw [HVD.out, ← HNN.out] at qz
        have qlz := TZ.out.d.lt
        clear hwz q1 ql1
        go_wp2_with fail
        refine (peersC sortC TZ.out.g (by have := HL.out; omega) a).mono ?_
        rintro e wp ⟨vp, S, rfl, op_, fp, bp, sp⟩
        obtain ⟨Ap, cp, hvp, _⟩ := op_.shape
        subst hvp
        have OP := Kp.mk op_
        have SP := Kp.mk sp
        have TP := Kp.mk (TZ.out.below bp)
        have hSl : S.length ≤ 3000 := by
          have := nodup_len sp.nodup (m := uni (sn ns) a) (fun y hy => Nb.uni a ((sp.2 y).1 hy))
          rw [uni_len] at this
          have := HN.out
          omega
        obtain ⟨m, hm⟩ : ∃ m, m = S.length := ⟨_, rfl⟩
        rw [← hm] at OP hSl ⊢
        have HM := Kp.mk hm
        clear op_ fp bp sp hm
        go_wp2_with fail
        go_loopw [12, 61] (fun _ i wi => ∃ (j : Nat), j ≤ m ∧ i = .int .i64 j ∧ Kp (Below wp.heap.size wp wi)) (fun _ i _ => m - (intOf i).toNat)
        case atStart => exact ⟨0, Nat.zero_le _, rfl, ⟨Below.refl _ _⟩⟩
        case round =>
          obtain ⟨j, hj, rfl, HBj⟩ := hrel
          by_cases hlt2 : j < m
          · obtain ⟨A9, c9, hv9, _, _, h0, h1⟩ := OP.out.shape
            obtain ⟨gp, rfl⟩ : ∃ g, Ap = some ⟨g, 0, none⟩ := by
              injection hv9 with e1 _ _
              subst e1
              cases Ap with
              | none => have := (h0 rfl).1; have h2 := HM.out; rw [this] at h2; simp at h2; omega
              | some y => obtain ⟨g, rfl⟩ := h1 y rfl; exact ⟨g, rfl⟩
            clear hv9 h0 h1
            have hmt : j < S.length := by have := HM.out; omega
            have hcy := (OP.out.below HBj.out).elem j 0 hmt (by decide)
            have hmy : S[j] ∈ S := List.getElem_mem hmt
            obtain ⟨y, hye⟩ : ∃ y, y = S[j] := ⟨_, rfl⟩
            rw [← hye] at hcy hmy
            have hcy' : wr.cell? ⟨gp, j, none⟩ = some (.int .i64 y) := by simpa [eI64] using hcy
            have hnb := (SP.out.2 y).1 hmy
            have LK := Kp.mk (linked_any wr p bm lm rm ns last a y (TP.out.below HBj.out).g HA.out (peer_64 OKK.out hnb))
            rw [peer_linked OKK.out hnb] at LK
            have j0 : (0 : Int) ≤ (j : Int) := by omega
            have j1 : (j : Int) < (m : Int) := by omega
            clear hye hmt hmy hcy hnb
            go_wp2_with (go_at_call 26; refine LK.out.mono ?_; rintro e wq ⟨rfl, bq⟩; have BQ := Kp.mk (bstep HBj.out HBj.out.size bq); clear bq)
            go_roundw
            case rel => exact ⟨j + 1, by omega, by go_num, BQ⟩
            case measure => simp [intOf]; omega
          · obtain rfl : j = m := by omega
            have TR := Kp.mk (TP.out.below HBj.out)
            have qr := TR.out.d.c0
            rw [HVD.out, ← HNN.out] at qr
            have qlr := TR.out.d.lt
            have EA := Kp.mk (every_all (TR.out.g.below (Below.refl _ wr).drew) HL.out)
            rw [← HNN.out] at HN
            clear qz qlz
            go_upto_region 18 with fail
            refine R_begin 999 (fun w9 => w9.cell? ⟨q, 0, none⟩ = some (.slice Ad N cd)) (by kernel_rfl) qr (fun HP0 => ?_)
            refine R_pure 0 rfl (by kernel_rfl) HP0 ?_
            apply Exists.intro
            refine ⟨fun _ _ _ h => h, .inl ⟨by kernel_rfl, fun w9 h9 => ?_⟩, fun HP1 => ?_⟩
            · clear h9; go_simp; first | done | rfl
            clear HP0
            refine R_pure 2 rfl (by kernel_rfl) HP1 ?_
            apply Exists.intro
            refine ⟨fun _ _ _ h => h, .inl ⟨by kernel_rfl, fun w9 h9 => ?_⟩, fun HP2 => ?_⟩
            · clear h9; go_simp; first | done | rfl
            clear HP1
            refine R_pure 3 rfl (by kernel_rfl) HP2 ?_
            apply Exists.intro
            refine ⟨fun _ _ _ h => h, .inl ⟨by kernel_rfl, fun w9 h9 => ?_⟩, fun HP3 => ?_⟩
            · clear h9; go_simp; first | done | rfl
            clear HP2
            refine R_pure 4 rfl (by kernel_rfl) HP3 ?_
            apply Exists.intro
            refine ⟨fun _ _ _ h => h, .inl ⟨by kernel_rfl, fun w9 h9 => ?_⟩, fun HP4 => ?_⟩
            · clear h9; go_simp; first | done | rfl
            clear HP3
            refine R_take 5 rfl (by kernel_rfl) HP4 ?_
            apply Exists.intro
            refine ⟨fun _ _ _ h => h, .inl ⟨by kernel_rfl, fun w9 h9 => ?_⟩, fun HP5 => ?_⟩
            · obtain s1 := h9; go_simp; first | done | rfl
            clear HP4
            refine R_all [1] (by kernel_rfl) ?_
            refine AllR.cons (i := 1) rfl (fun K9 HK9 => ?_) ?_
            · go_simp
              refine EA.out.mono ?_
              rintro e wa ⟨va, rfl, oa, fa, ba⟩
              obtain ⟨Aa, ca, hva, _⟩ := oa.shape
              subst hva
              have OA := Kp.mk oa
              have BA := Kp.mk ((Below.refl _ wr).drew.trans ba)
              have qa := (BA.out.cell (p := ⟨q, 0, none⟩) qlr).trans qr
              rw [← HNN.out]
              clear oa fa ba
              go_simp
              refine HK9.out _ _ (.inr qa) (fun HP6 => ?_)
              clear HK9 K9
              refine R_all [6] (by kernel_rfl) ?_
              refine AllR.cons (i := 6) rfl (fun K9 HK9 => ?_) ?_
              · go_simp
                have hbq := bonds_eq wa (sn ns) Aa Ad ca cd (OA.out.src rfl) ((TR.out.below BA.out).d.own.src (by rw [HVD.out])) (by have := HN.out; have := HNN.out; omega)
                rw [← HNN.out] at hbq
                refine hbq.mono ?_
                rintro e wb ⟨rfl, bb⟩
                have BB := Kp.mk (bstep BA.out BA.out.size bb)
                have qb := (BB.out.cell (p := ⟨q, 0, none⟩) qlr).trans qr
                clear bb hbq
                go_simp
                refine HK9.out _ _ (.inr qb) (fun HP7 => ?_)
                clear HK9 K9
                refine R_pure 7 rfl (by kernel_rfl) HP7 ?_
                apply Exists.intro
                refine ⟨fun _ _ _ h => h, .inl ⟨by kernel_rfl, fun w9 h9 => ?_⟩, fun HP8 => ?_⟩
                · clear h9; go_simp; first | done | rfl
                clear HP7
                refine R_pure 8 rfl (by kernel_rfl) HP8 ?_
                apply Exists.intro
                refine ⟨fun _ _ _ h => h, .inl ⟨by kernel_rfl, fun w9 h9 => ?_⟩, fun HP9 => ?_⟩
                · clear h9; go_simp; first | done | rfl
                clear HP8
                refine R_pure 9 rfl (by kernel_rfl) HP9 ?_
                apply Exists.intro
                refine ⟨fun _ _ _ h => h, .inl ⟨by kernel_rfl, fun w9 h9 => ?_⟩, fun HP10 => ?_⟩
                · clear h9; go_simp; first | done | rfl
                clear HP9
                refine R_pure 10 rfl (by kernel_rfl) HP10 ?_
                apply Exists.intro
                refine ⟨fun _ _ _ h => h, .inl ⟨by kernel_rfl, fun w9 h9 => ?_⟩, fun HP11 => ?_⟩
                · clear h9; go_simp; first | done | rfl
                clear HP10
                refine R_pure 11 rfl (by kernel_rfl) HP11 ?_
                apply Exists.intro
                refine ⟨fun _ _ _ h => h, .inl ⟨by kernel_rfl, fun w9 h9 => ?_⟩, fun HP12 => ?_⟩
                · clear h9; go_simp; first | done | rfl
                clear HP11
                refine R_all [12] (by kernel_rfl) ?_
                refine AllR.cons (i := 12) rfl (fun K9 HK9 => ?_) ?_
                · go_simp
                  refine (asked_any (TR.out.below BB.out) HL.out a b HA.out HBb.out).mono ?_
                  rintro e wc ⟨rfl, bc⟩
                  have BC := Kp.mk (bstep BB.out BB.out.size bc)
                  have qc := (BC.out.cell (p := ⟨q, 0, none⟩) qlr).trans qr
                  clear bc
                  go_simp
                  refine HK9.out _ _ (.inr qc) (fun HP13 => ?_)
                  clear HK9 K9
                  refine R_pure 13 rfl (by kernel_rfl) HP13 ?_
                  apply Exists.intro
                  refine ⟨fun _ _ _ h => h, .inl ⟨by kernel_rfl, fun w9 h9 => ?_⟩, fun HP14 => ?_⟩
                  · clear h9; go_simp; first | done | rfl
                  clear HP13
                  refine R_pure 14 rfl (by kernel_rfl) HP14 ?_
                  apply Exists.intro
                  refine ⟨fun _ _ _ h => h, .inl ⟨by kernel_rfl, fun w9 h9 => ?_⟩, fun HP15 => ?_⟩
                  · clear h9; go_simp; first | done | rfl
                  clear HP14
                  refine R_pure 15 rfl (by kernel_rfl) HP15 ?_
                  apply Exists.intro
                  refine ⟨fun _ _ _ h => h, .inl ⟨by kernel_rfl, fun w9 h9 => ?_⟩, fun HP16 => ?_⟩
                  · clear h9; go_simp; first | done | rfl
                  clear HP15
                  refine R_pure 16 rfl (by kernel_rfl) HP16 ?_
                  apply Exists.intro
                  refine ⟨fun _ _ _ h => h, .inl ⟨by kernel_rfl, fun w9 h9 => ?_⟩, fun HP17 => ?_⟩
                  · clear h9; go_simp; first | done | rfl
                  clear HP16
                  refine R_pure 17 rfl (by kernel_rfl) HP17 ?_
                  apply Exists.intro
                  refine ⟨fun _ _ _ h => h, .inl ⟨by kernel_rfl, fun w9 h9 => ?_⟩, fun HP18 => ?_⟩
                  · clear h9; go_simp; first | done | rfl
                  clear HP17
                  refine R_pure 18 rfl (by kernel_rfl) HP18 ?_
                  apply Exists.intro
                  refine ⟨fun _ _ _ h => h, .inl ⟨by kernel_rfl, fun w9 h9 => ?_⟩, fun HP19 => ?_⟩
                  · clear h9; go_simp; first | done | rfl
                  clear HP18
                  refine R_all [19] (by kernel_rfl) ?_
                  refine AllR.cons (i := 19) rfl (fun K9 HK9 => ?_) ?_
                  · go_simp
                    refine (asked_any (TR.out.below BC.out) HL.out b a HBb.out HA.out).mono ?_
                    rintro e wd ⟨rfl, bd⟩
                    have BD := Kp.mk (bstep BC.out BC.out.size bd)
                    have qd := (BD.out.cell (p := ⟨q, 0, none⟩) qlr).trans qr
                    clear bd
                    go_simp
                    refine HK9.out _ _ (.inr qd) (fun HP20 => ?_)
                    clear HK9 K9
                    refine R_pure 20 rfl (by kernel_rfl) HP20 ?_
                    apply Exists.intro
                    refine ⟨fun _ _ _ h => h, .inl ⟨by kernel_rfl, fun w9 h9 => ?_⟩, fun HP21 => ?_⟩
                    · clear h9; go_simp; first | done | rfl
                    clear HP20
                    refine R_pure 21 rfl (by kernel_rfl) HP21 ?_
                    apply Exists.intro
                    refine ⟨fun _ _ _ h => h, .inl ⟨by kernel_rfl, fun w9 h9 => ?_⟩, fun HP22 => ?_⟩
                    · clear h9; go_simp; first | done | rfl
                    clear HP21
                    refine R_all [22] (by kernel_rfl) ?_
                    refine AllR.cons (i := 22) rfl (fun K9 HK9 => ?_) ?_
                    · go_simp
                      refine (awake_any wd).mono ?_
                      rintro e we ⟨rfl, be⟩
                      have BE := Kp.mk (bstep BD.out BD.out.size be)
                      have qe := (BE.out.cell (p := ⟨q, 0, none⟩) qlr).trans qr
                      clear be
                      go_simp
                      refine HK9.out _ _ (.inr qe) (fun HP23 => ?_)
                      clear HK9 K9
                      refine R_pure 23 rfl (by kernel_rfl) HP23 ?_
                      apply Exists.intro
                      refine ⟨fun _ _ _ h => h, .inl ⟨by kernel_rfl, fun w9 h9 => ?_⟩, fun HP24 => ?_⟩
                      · clear h9; go_simp; first | done | rfl
                      clear HP23
                      refine R_pure 24 rfl (by kernel_rfl) HP24 ?_
                      apply Exists.intro
                      refine ⟨fun _ _ _ h => h, .inl ⟨by kernel_rfl, fun w9 h9 => ?_⟩, fun HP25 => ?_⟩
                      · clear h9; go_simp; first | done | rfl
                      clear HP24
                      refine R_done (by kernel_rfl) ?_
                      go_wp2
                      go_ret
                      exact ⟨rfl, bstep TR.out.bel TR.out.bel.size BE.out⟩
                    exact AllR.nil
                  exact AllR.nil
                exact AllR.nil
              exact AllR.nil
            exact AllR.nil
end Go.Proofs.Ytlbbheopoflmjaa
