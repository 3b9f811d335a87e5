/- NamesPlays walked: it answers true; its bounds stand in the statement. -/
import Derived.Test.YtmkfpaohlmejkaaDoorSt
namespace Go.Proofs.YtmkfpaohlmejkaaDoor
open Go.RowKit

def eOp : El OpM := ⟨3, fun x => [.int .i64 x.kind, .string x.n, .int .i64 x.p], fun _ => rfl, fun _ u h => by simp at h; rcases h with rfl | rfl | rfl <;> rfl, by decide⟩
theorem op_cells {w : World} {g o c : Nat} {ops : List OpM} (h : Src w eOp (some ⟨g, o, none⟩) c ops) (k : Nat) (hk : k < ops.length) :
    w.cell? ⟨g, o + k * 3, none⟩ = some (.int .i64 ops[k].kind) ∧ w.cell? ⟨g, o + k * 3 + 1, none⟩ = some (.string ops[k].n) ∧ w.cell? ⟨g, o + k * 3 + 2, none⟩ = some (.int .i64 ops[k].p) := by
  refine ⟨?_, ?_, ?_⟩
  · have h1 := h.elem k 0 hk (by decide); simpa [eOp] using h1
  · have h1 := h.elem k 1 hk (by decide); simpa [eOp] using h1
  · have h1 := h.elem k 2 hk (by decide); simpa [eOp] using h1
def OpG (o : OpM) : Prop := o.n.size ≤ 140737488355328 ∧ KI.ok o.p
theorem cutE_0 (ns : List En) : cutE 0 ns = ns := by unfold cutE; rw [if_neg (by omega)]
set_option maxRecDepth 100000 in
set_option maxHeartbeats 16000000 in
theorem namesPlays_any (w : World) (ops : List OpM) (A : Option Addr) (c : Nat) (hs : Src w eOp A c ops) (hr : ∀ o ∈ ops, OpG o) (hT : Tabs w) (hn : ops.length ≤ 9000000000000) :
    Calls Tryd.prog 3 #[.slice A ops.length c] w fun e w' => e = .returned (.bool true) ∧ Below w.heap.size w w' := by
  have HS := Kp.mk hs
  have HR := Kp.mk hr
  have HTT := Kp.mk hT
  clear hs hr hT
  go_enter Tryd.func3, Tryd.ntmps3
  go_wp2_with fail
  refine (new_any w).mono ?_
  rintro e w1 ⟨p, a, b, rfl, h1, hf, hb1⟩
  have T0 := Kp.mk (two_new h1 hf hb1)
  obtain ⟨q, hq⟩ : ∃ q, q = w1.heap.size := ⟨_, rfl⟩
  rw [← hq] at T0
  have HQ := Kp.mk hq
  clear h1 hf hb1 hq
  go_upto_region 5 with fail
  rw [← HQ.out]
  go_wp2_with fail
  go_loopw [5] (fun i wr => ∃ (k : Nat) (lv : Value) (ns : List En), k ≤ ops.length ∧ i = .int .i64 k ∧ Kp (Two w wr p a b q lv ns)) (fun i _ => ops.length - (intOf i).toNat)
  case atStart => exact ⟨0, _, _, Nat.zero_le _, rfl, T0⟩
  case round =>
    clear T0
    obtain ⟨k, lv, ns, hk, rfl, hT⟩ := hrel
    by_cases hlt : k < ops.length
    · cases A with
      | none => have := (HS.out.none rfl).1; subst this; simp at hlt
      | some x =>
        obtain ⟨g, o, rfl⟩ := HS.out.addr (by omega)
        have hs := HS.out.below hT.out.bel
        obtain ⟨e0, e1, e2⟩ := op_cells hs k hlt
        have hrx := HR.out ops[k] (List.getElem_mem hlt)
        obtain ⟨x, hx⟩ : ∃ x, x = ops[k] := ⟨_, rfl⟩
        rw [← hx] at e0 e1 e2 hrx
        have k0 : (0 : Int) ≤ (k : Int) := by omega
        have k1 : (k : Int) < (ops.length : Int) := by omega
        have STP := Kp.mk (step_any w _ p a b q lv ns x (hT.out.below (Below.refl _ _).drew) HTT.out hrx.1 hrx.2)
        have E0 := Kp.mk (And.intro e0 (And.intro e1 e2))
        clear hs hx hrx e0 e1 e2
        go_upto_region 8 with fail
        refine R_begin 6 (fun w9 => w9.cell? ⟨g, o + k * 3, none⟩ = some (.int .i64 x.kind) ∧ w9.cell? ⟨g, o + k * 3 + 1, none⟩ = some (.string x.n) ∧ w9.cell? ⟨g, o + k * 3 + 2, none⟩ = some (.int .i64 x.p)) (by kernel_rfl) E0.out (fun HP0 => ?_)
        refine R_pure 0 rfl (by kernel_rfl) HP0 ?_
        apply Exists.intro
        refine ⟨fun _ _ _ h => h, .inl ⟨by kernel_rfl, fun w9 h9 => ?_⟩, fun HP1 => ?_⟩
        · clear h9; go_simp; first | done | rfl
        clear HP0
        refine R_pure 1 rfl (by kernel_rfl) HP1 ?_
        apply Exists.intro
        refine ⟨fun _ _ _ h => h, .inl ⟨by kernel_rfl, fun w9 h9 => ?_⟩, fun HP2 => ?_⟩
        · clear h9; go_simp; first | done | rfl
        clear HP1
        refine R_pure 2 rfl (by kernel_rfl) HP2 ?_
        apply Exists.intro
        refine ⟨fun _ _ _ h => h, .inl ⟨by kernel_rfl, fun w9 h9 => ?_⟩, fun HP3 => ?_⟩
        · clear h9; go_simp; first | done | rfl
        clear HP2
        refine R_pure 3 rfl (by kernel_rfl) HP3 ?_
        apply Exists.intro
        refine ⟨fun _ _ _ h => h, .inl ⟨by kernel_rfl, fun w9 h9 => ?_⟩, fun HP4 => ?_⟩
        · clear h9; go_simp; first | done | rfl
        clear HP3
        refine R_pure 4 rfl (by kernel_rfl) HP4 ?_
        apply Exists.intro
        refine ⟨fun _ _ _ h => h, .inl ⟨by kernel_rfl, fun w9 h9 => ?_⟩, fun HP5 => ?_⟩
        · clear h9; go_simp; first | done | rfl
        clear HP4
        refine R_take 5 rfl (by kernel_rfl) HP5 ?_
        apply Exists.intro
        refine ⟨fun _ _ _ h => h, .inl ⟨by kernel_rfl, fun w9 h9 => ?_⟩, fun HP6 => ?_⟩
        · obtain ⟨s1, s2, s3⟩ := h9; go_simp; first | done | rfl
        clear HP5
        refine R_all [6] (by kernel_rfl) ?_
        refine AllR.cons (i := 6) rfl (fun K9 HK9 => ?_) ?_
        · go_simp
          refine STP.out.mono ?_
          rintro e w5 ⟨rfl, lv', h5⟩
          have H5 := Kp.mk h5
          obtain ⟨Ad, cd, hvd, q5⟩ := h5.d.sh
          have HVD := Kp.mk hvd
          obtain ⟨N, hN⟩ : ∃ N, N = (nsOf ns x).length := ⟨_, rfl⟩
          have HNN := Kp.mk hN
          rw [← hN] at q5
          have hdd : ((N : Int) != (N : Int)) = false := by simp
          have HLn := Kp.mk (len_any w5 p a b _ h5.g)
          have HAl := Kp.mk (all_any h5.g 0 (by omega))
          rw [cutE_0] at HAl
          have ql5 := h5.d.lt
          clear h5 hvd hN
          go_simp
          refine HK9.out _ _ (.inl (by kernel_rfl)) (fun HP7 => ?_)
          clear HK9 K9
          refine R_pure 7 rfl (by kernel_rfl) HP7 ?_
          apply Exists.intro
          refine ⟨fun _ _ _ h => h, .inl ⟨by kernel_rfl, fun w9 h9 => ?_⟩, fun HP8 => ?_⟩
          · clear h9; go_simp; first | done | rfl
          clear HP7
          refine R_pure 8 rfl (by kernel_rfl) HP8 ?_
          apply Exists.intro
          refine ⟨fun _ _ _ h => h, .inl ⟨by kernel_rfl, fun w9 h9 => ?_⟩, fun HP9 => ?_⟩
          · clear h9; go_simp; first | done | rfl
          clear HP8
          refine R_pure 9 rfl (by kernel_rfl) HP9 ?_
          apply Exists.intro
          refine ⟨fun _ _ _ h => h, .inl ⟨by kernel_rfl, fun w9 h9 => ?_⟩, fun HP10 => ?_⟩
          · clear h9; go_simp; first | done | rfl
          clear HP9
          refine R_pure 11 rfl (by kernel_rfl) HP10 ?_
          apply Exists.intro
          refine ⟨fun _ _ _ h => h, .inl ⟨by kernel_rfl, fun w9 h9 => ?_⟩, fun HP11 => ?_⟩
          · clear h9; go_simp; first | done | rfl
          clear HP10
          refine R_pure 12 rfl (by kernel_rfl) HP11 ?_
          apply Exists.intro
          refine ⟨fun _ _ _ h => h, .inl ⟨by kernel_rfl, fun w9 h9 => ?_⟩, fun HP12 => ?_⟩
          · clear h9; go_simp; first | done | rfl
          clear HP11
          refine R_pure 13 rfl (by kernel_rfl) HP12 ?_
          apply Exists.intro
          refine ⟨fun _ _ _ h => h, .inl ⟨by kernel_rfl, fun w9 h9 => ?_⟩, fun HP13 => ?_⟩
          · clear h9; go_simp; first | done | rfl
          clear HP12
          refine R_all [10, 14] (by kernel_rfl) ?_
          refine AllR.cons (i := 10) rfl (fun K9 HK9 => ?_) ?_
          · go_simp
            refine HLn.out.mono ?_
            rintro e w6 ⟨rfl, rfl⟩
            rw [← HNN.out]
            go_simp
            refine HK9.out _ _ (.inl (by kernel_rfl)) (fun HP14 => ?_)
            clear HK9 K9
            refine R_all [14] (by kernel_rfl) ?_
            refine AllR.cons (i := 14) rfl (fun K9 HK9 => ?_) ?_
            · go_simp
              refine HK9.out _ _ (.inl (by kernel_rfl)) (fun HP15 => ?_)
              clear HK9 K9
              refine R_pure 15 rfl (by kernel_rfl) HP15 ?_
              apply Exists.intro
              refine ⟨fun _ _ _ h => h, .inl ⟨by kernel_rfl, fun w9 h9 => ?_⟩, fun HP16 => ?_⟩
              · clear h9; go_simp; first | done | rfl
              clear HP15
              refine R_pure 16 rfl (by kernel_rfl) HP16 ?_
              apply Exists.intro
              refine ⟨fun _ _ _ h => h, .inl ⟨by kernel_rfl, fun w9 h9 => ?_⟩, fun HP17 => ?_⟩
              · clear h9; go_simp; first | done | rfl
              clear HP16
              refine R_pure 17 rfl (by kernel_rfl) HP17 ?_
              apply Exists.intro
              refine ⟨fun _ _ _ h => h, .inl ⟨by kernel_rfl, fun w9 h9 => ?_⟩, fun HP18 => ?_⟩
              · clear h9; go_simp; first | done | rfl
              clear HP17
              refine R_pure 18 rfl (by kernel_rfl) HP18 ?_
              apply Exists.intro
              refine ⟨fun _ _ _ h => h, .inl ⟨by kernel_rfl, fun w9 h9 => ?_⟩, fun HP19 => ?_⟩
              · clear h9; go_simp; first | done | rfl
              clear HP18
              refine R_pure 19 rfl (by kernel_rfl) HP19 ?_
              apply Exists.intro
              refine ⟨fun _ _ _ h => h, .inl ⟨by kernel_rfl, fun w9 h9 => ?_⟩, fun HP20 => ?_⟩
              · clear h9; go_simp; first | done | rfl
              clear HP19
              refine R_pure 21 rfl (by kernel_rfl) HP20 ?_
              apply Exists.intro
              refine ⟨fun _ _ _ h => h, .inl ⟨by kernel_rfl, fun w9 h9 => ?_⟩, fun HP21 => ?_⟩
              · clear h9; go_simp; first | done | rfl
              clear HP20
              refine R_pure 22 rfl (by kernel_rfl) HP21 ?_
              apply Exists.intro
              refine ⟨fun _ _ _ h => h, .inl ⟨by kernel_rfl, fun w9 h9 => ?_⟩, fun HP22 => ?_⟩
              · clear h9; go_simp; first | done | rfl
              clear HP21
              refine R_pure 23 rfl (by kernel_rfl) HP22 ?_
              apply Exists.intro
              refine ⟨fun _ _ _ h => h, .inl ⟨by kernel_rfl, fun w9 h9 => ?_⟩, fun HP23 => ?_⟩
              · clear h9; go_simp; first | done | rfl
              clear HP22
              refine R_all [20, 24] (by kernel_rfl) ?_
              refine AllR.cons (i := 20) rfl (fun K9 HK9 => ?_) ?_
              · go_simp
                refine HAl.out.mono ?_
                rintro e w7 ⟨v7, rfl, o7, f7, b7⟩
                obtain ⟨A7, c7, hv7, _⟩ := o7.shape
                subst hv7
                have O7 := Kp.mk o7
                have B7 := Kp.mk b7
                have q7 := (b7.cell (p := ⟨q, 0, none⟩) ql5).trans q5
                rw [← HNN.out]
                clear o7 f7 b7
                go_simp
                refine HK9.out _ _ (.inl (by kernel_rfl)) (fun HP24 => ?_)
                clear HK9 K9
                refine R_all [24] (by kernel_rfl) ?_
                refine AllR.cons (i := 24) rfl (fun K9 HK9 => ?_) ?_
                · go_simp
                  refine HK9.out _ _ (.inl (by kernel_rfl)) (fun HP25 => ?_)
                  clear HK9 K9
                  refine R_all [25] (by kernel_rfl) ?_
                  refine AllR.cons (i := 25) rfl (fun K9 HK9 => ?_) ?_
                  · go_simp
                    have hbq := same_eq w7 (nsOf ns x) A7 Ad c7 cd (O7.out.src rfl) ((H5.out.below B7.out).d.own.src HVD.out) (by have := H5.out.g.ok.len; omega)
                    rw [← HNN.out] at hbq
                    refine hbq.mono ?_
                    rintro e w8 ⟨rfl, b8⟩
                    have T8 := Kp.mk ((H5.out.below B7.out).below b8)
                    clear b8 hbq
                    go_simp
                    refine HK9.out _ _ (.inl (by kernel_rfl)) (fun HP26 => ?_)
                    clear HK9 K9
                    refine R_pure 26 rfl (by kernel_rfl) HP26 ?_
                    apply Exists.intro
                    refine ⟨fun _ _ _ h => h, .inl ⟨by kernel_rfl, fun w9 h9 => ?_⟩, fun HP27 => ?_⟩
                    · clear h9; go_simp; first | done | rfl
                    clear HP26
                    refine R_pure 27 rfl (by kernel_rfl) HP27 ?_
                    apply Exists.intro
                    refine ⟨fun _ _ _ h => h, .inl ⟨by kernel_rfl, fun w9 h9 => ?_⟩, fun HP28 => ?_⟩
                    · clear h9; go_simp; first | done | rfl
                    clear HP27
                    refine R_done (by kernel_rfl) ?_
                    go_wp2
                    go_roundw
                    case rel => exact ⟨k + 1, lv', _, by omega, by go_num, T8⟩
                    case measure => simp [intOf]; omega
                  exact AllR.nil
                exact AllR.nil
              refine AllR.cons (i := 24) rfl (fun K9 HK9 => ?_) ?_
              · go_simp
                refine HK9.out _ _ (.inl (by kernel_rfl)) (fun HP29 => ?_)
                clear HK9 K9
                refine R_all [20] (by kernel_rfl) ?_
                refine AllR.cons (i := 20) rfl (fun K9 HK9 => ?_) ?_
                · go_simp
                  refine HAl.out.mono ?_
                  rintro e w7 ⟨v7, rfl, o7, f7, b7⟩
                  obtain ⟨A7, c7, hv7, _⟩ := o7.shape
                  subst hv7
                  have O7 := Kp.mk o7
                  have B7 := Kp.mk b7
                  have q7 := (b7.cell (p := ⟨q, 0, none⟩) ql5).trans q5
                  rw [← HNN.out]
                  clear o7 f7 b7
                  go_simp
                  refine HK9.out _ _ (.inl (by kernel_rfl)) (fun HP30 => ?_)
                  clear HK9 K9
                  refine R_all [25] (by kernel_rfl) ?_
                  refine AllR.cons (i := 25) rfl (fun K9 HK9 => ?_) ?_
                  · go_simp
                    have hbq := same_eq w7 (nsOf ns x) A7 Ad c7 cd (O7.out.src rfl) ((H5.out.below B7.out).d.own.src HVD.out) (by have := H5.out.g.ok.len; omega)
                    rw [← HNN.out] at hbq
                    refine hbq.mono ?_
                    rintro e w8 ⟨rfl, b8⟩
                    have T8 := Kp.mk ((H5.out.below B7.out).below b8)
                    clear b8 hbq
                    go_simp
                    refine HK9.out _ _ (.inl (by kernel_rfl)) (fun HP31 => ?_)
                    clear HK9 K9
                    refine R_pure 26 rfl (by kernel_rfl) HP31 ?_
                    apply Exists.intro
                    refine ⟨fun _ _ _ h => h, .inl ⟨by kernel_rfl, fun w9 h9 => ?_⟩, fun HP32 => ?_⟩
                    · clear h9; go_simp; first | done | rfl
                    clear HP31
                    refine R_pure 27 rfl (by kernel_rfl) HP32 ?_
                    apply Exists.intro
                    refine ⟨fun _ _ _ h => h, .inl ⟨by kernel_rfl, fun w9 h9 => ?_⟩, fun HP33 => ?_⟩
                    · clear h9; go_simp; first | done | rfl
                    clear HP32
                    refine R_done (by kernel_rfl) ?_
                    go_wp2
                    go_roundw
                    case rel => exact ⟨k + 1, lv', _, by omega, by go_num, T8⟩
                    case measure => simp [intOf]; omega
                  exact AllR.nil
                exact AllR.nil
              exact AllR.nil
            exact AllR.nil
          refine AllR.cons (i := 14) rfl (fun K9 HK9 => ?_) ?_
          · go_simp
            refine HK9.out _ _ (.inl (by kernel_rfl)) (fun HP34 => ?_)
            clear HK9 K9
            refine R_pure 15 rfl (by kernel_rfl) HP34 ?_
            apply Exists.intro
            refine ⟨fun _ _ _ h => h, .inl ⟨by kernel_rfl, fun w9 h9 => ?_⟩, fun HP35 => ?_⟩
            · clear h9; go_simp; first | done | rfl
            clear HP34
            refine R_all [10] (by kernel_rfl) ?_
            refine AllR.cons (i := 10) rfl (fun K9 HK9 => ?_) ?_
            · go_simp
              refine HLn.out.mono ?_
              rintro e w6 ⟨rfl, rfl⟩
              rw [← HNN.out]
              go_simp
              refine HK9.out _ _ (.inl (by kernel_rfl)) (fun HP36 => ?_)
              clear HK9 K9
              refine R_pure 16 rfl (by kernel_rfl) HP36 ?_
              apply Exists.intro
              refine ⟨fun _ _ _ h => h, .inl ⟨by kernel_rfl, fun w9 h9 => ?_⟩, fun HP37 => ?_⟩
              · clear h9; go_simp; first | done | rfl
              clear HP36
              refine R_pure 17 rfl (by kernel_rfl) HP37 ?_
              apply Exists.intro
              refine ⟨fun _ _ _ h => h, .inl ⟨by kernel_rfl, fun w9 h9 => ?_⟩, fun HP38 => ?_⟩
              · clear h9; go_simp; first | done | rfl
              clear HP37
              refine R_pure 18 rfl (by kernel_rfl) HP38 ?_
              apply Exists.intro
              refine ⟨fun _ _ _ h => h, .inl ⟨by kernel_rfl, fun w9 h9 => ?_⟩, fun HP39 => ?_⟩
              · clear h9; go_simp; first | done | rfl
              clear HP38
              refine R_pure 19 rfl (by kernel_rfl) HP39 ?_
              apply Exists.intro
              refine ⟨fun _ _ _ h => h, .inl ⟨by kernel_rfl, fun w9 h9 => ?_⟩, fun HP40 => ?_⟩
              · clear h9; go_simp; first | done | rfl
              clear HP39
              refine R_pure 21 rfl (by kernel_rfl) HP40 ?_
              apply Exists.intro
              refine ⟨fun _ _ _ h => h, .inl ⟨by kernel_rfl, fun w9 h9 => ?_⟩, fun HP41 => ?_⟩
              · clear h9; go_simp; first | done | rfl
              clear HP40
              refine R_pure 22 rfl (by kernel_rfl) HP41 ?_
              apply Exists.intro
              refine ⟨fun _ _ _ h => h, .inl ⟨by kernel_rfl, fun w9 h9 => ?_⟩, fun HP42 => ?_⟩
              · clear h9; go_simp; first | done | rfl
              clear HP41
              refine R_pure 23 rfl (by kernel_rfl) HP42 ?_
              apply Exists.intro
              refine ⟨fun _ _ _ h => h, .inl ⟨by kernel_rfl, fun w9 h9 => ?_⟩, fun HP43 => ?_⟩
              · clear h9; go_simp; first | done | rfl
              clear HP42
              refine R_all [20, 24] (by kernel_rfl) ?_
              refine AllR.cons (i := 20) rfl (fun K9 HK9 => ?_) ?_
              · go_simp
                refine HAl.out.mono ?_
                rintro e w7 ⟨v7, rfl, o7, f7, b7⟩
                obtain ⟨A7, c7, hv7, _⟩ := o7.shape
                subst hv7
                have O7 := Kp.mk o7
                have B7 := Kp.mk b7
                have q7 := (b7.cell (p := ⟨q, 0, none⟩) ql5).trans q5
                rw [← HNN.out]
                clear o7 f7 b7
                go_simp
                refine HK9.out _ _ (.inl (by kernel_rfl)) (fun HP44 => ?_)
                clear HK9 K9
                refine R_all [24] (by kernel_rfl) ?_
                refine AllR.cons (i := 24) rfl (fun K9 HK9 => ?_) ?_
                · go_simp
                  refine HK9.out _ _ (.inl (by kernel_rfl)) (fun HP45 => ?_)
                  clear HK9 K9
                  refine R_all [25] (by kernel_rfl) ?_
                  refine AllR.cons (i := 25) rfl (fun K9 HK9 => ?_) ?_
                  · go_simp
                    have hbq := same_eq w7 (nsOf ns x) A7 Ad c7 cd (O7.out.src rfl) ((H5.out.below B7.out).d.own.src HVD.out) (by have := H5.out.g.ok.len; omega)
                    rw [← HNN.out] at hbq
                    refine hbq.mono ?_
                    rintro e w8 ⟨rfl, b8⟩
                    have T8 := Kp.mk ((H5.out.below B7.out).below b8)
                    clear b8 hbq
                    go_simp
                    refine HK9.out _ _ (.inl (by kernel_rfl)) (fun HP46 => ?_)
                    clear HK9 K9
                    refine R_pure 26 rfl (by kernel_rfl) HP46 ?_
                    apply Exists.intro
                    refine ⟨fun _ _ _ h => h, .inl ⟨by kernel_rfl, fun w9 h9 => ?_⟩, fun HP47 => ?_⟩
                    · clear h9; go_simp; first | done | rfl
                    clear HP46
                    refine R_pure 27 rfl (by kernel_rfl) HP47 ?_
                    apply Exists.intro
                    refine ⟨fun _ _ _ h => h, .inl ⟨by kernel_rfl, fun w9 h9 => ?_⟩, fun HP48 => ?_⟩
                    · clear h9; go_simp; first | done | rfl
                    clear HP47
                    refine R_done (by kernel_rfl) ?_
                    go_wp2
                    go_roundw
                    case rel => exact ⟨k + 1, lv', _, by omega, by go_num, T8⟩
                    case measure => simp [intOf]; omega
                  exact AllR.nil
                exact AllR.nil
              refine AllR.cons (i := 24) rfl (fun K9 HK9 => ?_) ?_
              · go_simp
                refine HK9.out _ _ (.inl (by kernel_rfl)) (fun HP49 => ?_)
                clear HK9 K9
                refine R_all [20] (by kernel_rfl) ?_
                refine AllR.cons (i := 20) rfl (fun K9 HK9 => ?_) ?_
                · go_simp
                  refine HAl.out.mono ?_
                  rintro e w7 ⟨v7, rfl, o7, f7, b7⟩
                  obtain ⟨A7, c7, hv7, _⟩ := o7.shape
                  subst hv7
                  have O7 := Kp.mk o7
                  have B7 := Kp.mk b7
                  have q7 := (b7.cell (p := ⟨q, 0, none⟩) ql5).trans q5
                  rw [← HNN.out]
                  clear o7 f7 b7
                  go_simp
                  refine HK9.out _ _ (.inl (by kernel_rfl)) (fun HP50 => ?_)
                  clear HK9 K9
                  refine R_all [25] (by kernel_rfl) ?_
                  refine AllR.cons (i := 25) rfl (fun K9 HK9 => ?_) ?_
                  · go_simp
                    have hbq := same_eq w7 (nsOf ns x) A7 Ad c7 cd (O7.out.src rfl) ((H5.out.below B7.out).d.own.src HVD.out) (by have := H5.out.g.ok.len; omega)
                    rw [← HNN.out] at hbq
                    refine hbq.mono ?_
                    rintro e w8 ⟨rfl, b8⟩
                    have T8 := Kp.mk ((H5.out.below B7.out).below b8)
                    clear b8 hbq
                    go_simp
                    refine HK9.out _ _ (.inl (by kernel_rfl)) (fun HP51 => ?_)
                    clear HK9 K9
                    refine R_pure 26 rfl (by kernel_rfl) HP51 ?_
                    apply Exists.intro
                    refine ⟨fun _ _ _ h => h, .inl ⟨by kernel_rfl, fun w9 h9 => ?_⟩, fun HP52 => ?_⟩
                    · clear h9; go_simp; first | done | rfl
                    clear HP51
                    refine R_pure 27 rfl (by kernel_rfl) HP52 ?_
                    apply Exists.intro
                    refine ⟨fun _ _ _ h => h, .inl ⟨by kernel_rfl, fun w9 h9 => ?_⟩, fun HP53 => ?_⟩
                    · clear h9; go_simp; first | done | rfl
                    clear HP52
                    refine R_done (by kernel_rfl) ?_
                    go_wp2
                    go_roundw
                    case rel => exact ⟨k + 1, lv', _, by omega, by go_num, T8⟩
                    case measure => simp [intOf]; omega
                  exact AllR.nil
                exact AllR.nil
              exact AllR.nil
            exact AllR.nil
          exact AllR.nil
        exact AllR.nil
    · obtain rfl : k = ops.length := by omega
      have T1 := Kp.mk hT.out
      clear hT
      obtain ⟨Ad, cd, hvd, q1⟩ := T1.out.d.sh
      obtain ⟨N, hN⟩ : ∃ N, N = ns.length := ⟨_, rfl⟩
      have HNN := Kp.mk hN
      have HVD := Kp.mk hvd
      have hN64 : N ≤ 64 := by rw [hN]; exact T1.out.g.ok.len
      rw [← hN] at q1
      have ql1 := T1.out.d.lt
      have HAl := Kp.mk (all_any T1.out.g 2 (by omega))
      clear hN hvd
      by_cases h2 : 2 < N
      · have hd : decide ((N : Int) > 2) = true := by simp; omega
        have ec : cutE 2 ns = ns.take 2 := by unfold cutE; rw [if_pos (by have := HNN.out; omega)]
        rw [ec] at HAl
        have ht2 : Kp ((ns.take 2).length = 2) := ⟨by rw [List.length_take]; have := HNN.out; omega⟩
        obtain ⟨A9, c9, hv9, hcl, _, h0, h1⟩ := T1.out.d.own.shape
        rw [HVD.out] at hv9
        obtain rfl : Ad = A9 := by injection hv9
        obtain rfl : cd = c9 := by injection hv9
        obtain ⟨g9, rfl⟩ : ∃ g, Ad = some ⟨g, 0, none⟩ := by
          cases Ad with
          | none => have := (h0 rfl).1; have h2 := HNN.out; rw [this] at h2; simp at h2; omega
          | some y => obtain ⟨g, rfl⟩ := h1 y rfl; exact ⟨g, rfl⟩
        have hNc : 2 ≤ cd := by have := HNN.out; omega
        have n1 : (2 : Int) ≤ (cd : Int) := by omega
        clear hv9 h0 h1 ec hcl
        go_wp2_with (first
          | (go_at_call 11; refine HAl.out.mono ?_; rintro e w7 ⟨v7, rfl, o7, f7, b7⟩; obtain ⟨A7, c7, hv7, _⟩ := o7.shape; subst hv7; have O7 := Kp.mk o7; have B7 := Kp.mk b7; rw [ht2.out]; clear o7 f7 b7)
          | (go_at_call 10; have hbq := same_eq w7 (ns.take 2) A7 (some ⟨g9, 0, none⟩) c7 cd (O7.out.src rfl) (((T1.out.below B7.out).d.own.src HVD.out).take 2) (by rw [ht2.out]; omega); rw [ht2.out] at hbq; refine hbq.mono ?_; rintro e w8 ⟨rfl, b8⟩; have T8 := Kp.mk ((T1.out.below B7.out).below b8); clear b8 hbq)
          | (go_at_call 12; refine (known_any w8 (HTT.out.below T8.out.bel)).mono ?_; rintro e w9 ⟨rfl, b9⟩; have T9 := Kp.mk (T8.out.below b9); clear b9))
        go_ret
        exact ⟨rfl, T9.out.bel⟩
      · have hd : decide ((N : Int) > 2) = false := by simp; omega
        have ec : cutE 2 ns = ns := by
          unfold cutE
          split
          · rename_i h; exact List.take_of_length_le (by have := HNN.out; omega)
          · rfl
        rw [ec] at HAl
        clear ec
        go_wp2_with (first
          | (go_at_call 11; refine HAl.out.mono ?_; rintro e w7 ⟨v7, rfl, o7, f7, b7⟩; obtain ⟨A7, c7, hv7, _⟩ := o7.shape; subst hv7; have O7 := Kp.mk o7; have B7 := Kp.mk b7; rw [← HNN.out]; clear o7 f7 b7)
          | (go_at_call 10; have hbq := same_eq w7 ns A7 Ad c7 cd (O7.out.src rfl) ((T1.out.below B7.out).d.own.src HVD.out) (by have := HNN.out; omega); rw [← HNN.out] at hbq; refine hbq.mono ?_; rintro e w8 ⟨rfl, b8⟩; have T8 := Kp.mk ((T1.out.below B7.out).below b8); clear b8 hbq)
          | (go_at_call 12; refine (known_any w8 (HTT.out.below T8.out.bel)).mono ?_; rintro e w9 ⟨rfl, b9⟩; have T9 := Kp.mk (T8.out.below b9); clear b9))
        go_ret
        exact ⟨rfl, T9.out.bel⟩
end Go.Proofs.YtmkfpaohlmejkaaDoor
