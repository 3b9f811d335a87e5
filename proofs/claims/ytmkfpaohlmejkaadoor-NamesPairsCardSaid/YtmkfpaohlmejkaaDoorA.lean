/- Add of package names walked; bounds stand in the statement. -/
import Derived.Test.YtmkfpaohlmejkaaDoorPl
import Derived.Test.YtmkfpaohlmejkaaDoorRt
import Derived.Test.YtmkfpaohlmejkaaDoorMapE
namespace Go.Proofs.YtmkfpaohlmejkaaDoor
open Go.RowKit

set_option maxHeartbeats 4000000 in
set_option maxRecDepth 100000 in
theorem add_any (w : World) (p a b : Nat) (l : List En) (h : IsN w p a b l) (hT : Tabs w) (s : ByteArray) (hs : s.size ≤ 140737488355328) (q : Int) (hq : KI.ok q) :
    Calls Tryd.prog 13 #[.pointer (some ⟨p, 0, none⟩), .string s, .int .i64 q] w fun e w' => e = .returned (.int .i64 (addE l s q)) ∧ IsN w' p a b (addL l s q) ∧ Chg (FG p a b) w w' := by
  have hs2 : s.size ≤ maxLen := by unfold maxLen; omega
  have q0 := h.g.c0
  have q1 := h.g.c1
  obtain ⟨vN, bN, hg1, hbN⟩ : ∃ v c, (Instr.lookup 51 (.map (some a)) (.string s) true).run Tryd.prog w = .ok (.tuple #[v, .bool c]) w ∧ c = (atN l s).isSome :=
    ⟨_, _, h.g.ma.get_ok Tryd.underlying51 (z := .int .i64 0) (by kernel_rfl) s hs2, by rw [look_who]; simp⟩
  obtain ⟨vP, bP, hg2, hbP⟩ : ∃ v c, (Instr.lookup 52 (.map (some b)) (.int .i64 q) true).run Tryd.prog w = .ok (.tuple #[v, .bool c]) w ∧ c = (atP l q).isSome :=
    ⟨_, _, h.g.mb.get_ok Tryd.underlying52 (z := .string { data := #[] }) (by kernel_rfl) q hq, by rw [look_name]; simp⟩
  have hR := right_any s w hs hT
  have H := Kp.mk h
  have HQ := Kp.mk hq
  have HBN := Kp.mk hbN
  have HBP := Kp.mk hbP
  clear h hT hq hbN hbP
  have fin : ∀ w1 r, Below w.heap.size w w1 → r = addE l s q → r ≠ 0 → (Ending.returned (Value.int .i64 r) = Ending.returned (Value.int .i64 (addE l s q)) ∧ IsN w1 p a b (addL l s q) ∧ Chg (FG p a b) w w1) := fun w1 r hb he h0 => by
    refine ⟨by rw [he], ?_, Chg.of_below hb _⟩
    unfold addL
    rw [if_neg (by rw [← he]; exact h0)]
    exact H.out.below hb
  have FIN := Kp.mk fin
  clear fin
  cases h1 : okA s
  · have he : Kp (20 = addE l s q) := ⟨by unfold addE; rw [if_pos (.inl h1)]⟩
    rw [h1] at hR
    go_enter Tryd.func13, Tryd.ntmps13
    go_wp2_with (go_at_call 25; refine hR.mono ?_; rintro e w1 ⟨rfl, hb⟩)
    go_ret
    exact FIN.out _ _ hb he.out (by decide)
  · rw [h1] at hR
    by_cases h2 : s = undefS
    · have he : Kp (20 = addE l s q) := ⟨by unfold addE; rw [if_pos (.inr h2)]⟩
      have hu : (s.toList == ([117, 110, 100, 101, 102, 105, 110, 101, 100] : List UInt8)) = true := by rw [h2, ByteArray.toList_eq]; rfl
      clear h2
      go_enter Tryd.func13, Tryd.ntmps13
      go_wp2_with (go_at_call 25; refine hR.mono ?_; rintro e w1 ⟨rfl, hb⟩)
      go_ret
      exact FIN.out _ _ hb he.out (by decide)
    · have hu : (s.toList == ([117, 110, 100, 101, 102, 105, 110, 101, 100] : List UInt8)) = false := by
        rw [beq_eq_false_iff_ne]
        exact fun e => h2 (WideShapes.bytes_inj (by rw [← ByteArray.toList_eq, e]; rfl))
      have n1 : ¬ (okA s = false ∨ s = undefS) := by rw [h1]; simpa using h2
      by_cases h3 : q < 1
      · have he : Kp (1 = addE l s q) := ⟨by unfold addE; rw [if_neg n1, if_pos (fun h => by have := h.1; omega)]⟩
        clear h2 n1
        go_enter Tryd.func13, Tryd.ntmps13
        go_wp2_with (go_at_call 25; refine hR.mono ?_; rintro e w1 ⟨rfl, hb⟩)
        go_ret
        exact FIN.out _ _ hb he.out (by decide)
      · by_cases h4 : 1099511627776 < q
        · have he : Kp (1 = addE l s q) := ⟨by unfold addE; rw [if_neg n1, if_pos (fun h => by have := h.2; omega)]⟩
          clear h2 n1
          go_enter Tryd.func13, Tryd.ntmps13
          go_wp2_with (go_at_call 25; refine hR.mono ?_; rintro e w1 ⟨rfl, hb⟩)
          go_ret
          exact FIN.out _ _ hb he.out (by decide)
        · have n2 : ¬ ¬ IsPid q := fun h => h ⟨by omega, by omega⟩
          have hb1 : ∀ w1, Below w.heap.size w w1 → IsN w1 p a b l := fun w1 hb => H.out.below hb
          have HB1 := Kp.mk hb1
          clear hb1
          by_cases h5 : bN = true ∨ bP = true
          · have he : Kp (6 = addE l s q) := ⟨by unfold addE; rw [if_neg n1, if_neg n2, if_pos (by rw [← HBN.out, ← HBP.out]; exact h5)]⟩
            clear h2 n1 n2
            rcases h5 with rfl | rfl
            · go_enter Tryd.func13, Tryd.ntmps13
              go_wp2_with (go_at_call 25; refine hR.mono ?_; rintro e w1 ⟨rfl, hb⟩)
              go_ret
              exact FIN.out _ _ hb he.out (by decide)
            · cases bN
              all_goals
                go_enter Tryd.func13, Tryd.ntmps13
                go_wp2_with (go_at_call 25; refine hR.mono ?_; rintro e w1 ⟨rfl, hb⟩)
                go_ret
                exact FIN.out _ _ hb he.out (by decide)
          · have n3 : ¬ ((atN l s).isSome = true ∨ (atP l q).isSome = true) := by rw [← HBN.out, ← HBP.out]; exact h5
            obtain rfl : bN = false := by simpa using fun e => h5 (.inl e)
            obtain rfl : bP = false := by simpa using fun e => h5 (.inr e)
            clear h5
            by_cases h6 : 64 ≤ l.length
            · have he : Kp (8 = addE l s q) := ⟨by unfold addE; rw [if_neg n1, if_neg n2, if_neg n3, if_pos h6]⟩
              have h6z : (64 : Int) ≤ (l.length : Int) := by omega
              clear h2 n1 n2 n3
              go_enter Tryd.func13, Tryd.ntmps13
              go_wp2_with (go_at_call 25; refine hR.mono ?_; rintro e w1 ⟨rfl, hb⟩; have p0 := (HB1.out w1 hb).g.c0; have pl := fun ty => (HB1.out w1 hb).g.ma.len Tryd.underlying51 ty; rw [show (whoE l).length = l.length by simp [whoE]] at pl)
              go_ret
              exact FIN.out _ _ hb he.out (by decide)
            · have he : Kp (addE l s q = 0) := ⟨by unfold addE; rw [if_neg n1, if_neg n2, if_neg n3, if_neg h6]⟩
              have h6z : ¬ (64 : Int) ≤ (l.length : Int) := by omega
              have hlen : Kp (l.length < 64) := ⟨by omega⟩
              clear h2 n1 n2 n3
              go_enter Tryd.func13, Tryd.ntmps13
              go_upto_region 13 with (go_at_call 25; refine hR.mono ?_; rintro e w1 ⟨rfl, hb⟩; have p0 := (HB1.out w1 hb).g.c0; have p1 := (HB1.out w1 hb).g.c1; have pl := fun ty => (HB1.out w1 hb).g.ma.len Tryd.underlying51 ty; rw [show (whoE l).length = l.length by simp [whoE]] at pl)
              have Hd : Kp (IsN w1.drew p a b l) := ⟨(HB1.out w1 hb).below (Below.refl _ _).drew⟩
              obtain ⟨v0, st0, W1, e1, c1, z1, f1⟩ := Hd.out.g.ma.entry Tryd.underlying51 (z := .int .i64 0) (fun u => by kernel_rfl) (by have := hlen.out; simp only [whoE, List.length_map]; unfold maxLen; omega) s (.int .i64 q) hs2 (by rw [look_who, (addE_ok he.out).2.2.2.1]; rfl)
              obtain ⟨W2, e2, m2, c2, z2⟩ := f1 W1 rfl
              have hmb2 : IsMapV KI W2 b (nameE l) := (Hd.out.g.mb.frame c1 (fun e => Hd.out.g.ne e.symm)).frame c2 (fun e => Hd.out.g.ne e.symm)
              obtain ⟨v3, st3, W3, e3, c3, z3, f3⟩ := hmb2.entry Tryd.underlying52 (z := .string { data := #[] }) (fun u => by kernel_rfl) (by have := hlen.out; simp only [nameE, List.length_map]; unfold maxLen; omega) q (.string s) HQ.out (by rw [look_name, (addE_ok he.out).2.2.2.2.1]; rfl)
              obtain ⟨W4, e4, m4, c4, z4⟩ := f3 W3 rfl
              have hpne := Hd.out.g.pne
              have k1 := c1.at Hd.out.g.blk hpne.1
              have k2 := c2.at k1 hpne.1
              have k3 := c3.at k2 hpne.2
              have k4 := c4.at k3 hpne.2
              have ph1 := Kp.mk (And.intro (blk_c k1 0) (blk_c k1 1))
              have ph2 := Kp.mk (And.intro (blk_c k2 0) (blk_c k2 1))
              have ph3 := Kp.mk (And.intro (blk_c k3 0) (blk_c k3 1))
              have ph4 := Kp.mk (And.intro (blk_c k4 0) (blk_c k4 1))
              have E1 : (Instr.mapEntry 51 (.map (some a)) (.string s)).run Tryd.prog w1.drew = .ok (.tuple #[v0, .int .i64 st0]) W1 := e1
              have E3 : (Instr.mapEntry 52 (.map (some b)) (.int .i64 q)).run Tryd.prog W2 = .ok (.tuple #[v3, .int .i64 st3]) W3 := e3
              refine R_begin 17 (fun w9 => w9.cell? ⟨p, 0, none⟩ = some (.map (some a)) ∧ w9.cell? ⟨p, 1, none⟩ = some (.map (some b))) (by kernel_rfl) ⟨p0, p1⟩ (fun HP0 => ?_)
              refine R_pure 0 rfl (by kernel_rfl) HP0 ?_
              apply Exists.intro
              refine ⟨fun _ _ _ h => h, .inl ⟨by kernel_rfl, fun w9 h9 => ?_⟩, fun HP1 => ?_⟩
              · clear h9; go_simp; first | done | rfl
              clear HP0
              refine R_pure 1 rfl (by kernel_rfl) HP1 ?_
              apply Exists.intro
              refine ⟨fun _ _ _ h => h, .inl ⟨by kernel_rfl, fun w9 h9 => ?_⟩, fun HP2 => ?_⟩
              · clear h9; go_simp; first | done | rfl
              clear HP1
              refine R_pure 2 rfl (by kernel_rfl) HP2 ?_
              apply Exists.intro
              refine ⟨fun _ _ _ h => h, .inl ⟨by kernel_rfl, fun w9 h9 => ?_⟩, fun HP3 => ?_⟩
              · clear h9; go_simp; first | done | rfl
              clear HP2
              refine R_take 3 rfl (by kernel_rfl) HP3 ?_
              apply Exists.intro
              refine ⟨fun _ _ _ h => h, .inl ⟨by kernel_rfl, fun w9 h9 => ?_⟩, fun HP4 => ?_⟩
              · obtain ⟨h0, h1⟩ := h9; go_simp; first | done | rfl
              clear HP3
              refine R_pure 4 rfl (by kernel_rfl) HP4 ?_
              apply Exists.intro
              refine ⟨fun _ _ _ h => h, .inl ⟨by kernel_rfl, fun w9 h9 => ?_⟩, fun HP5 => ?_⟩
              · clear h9; go_simp; first | done | rfl
              clear HP4
              refine R_pure 5 rfl (by kernel_rfl) HP5 ?_
              apply Exists.intro
              refine ⟨fun _ _ _ h => h, .inl ⟨by kernel_rfl, fun w9 h9 => ?_⟩, fun HP6 => ?_⟩
              · clear h9; go_simp; first | done | rfl
              clear HP5
              refine R_pure 6 rfl (by kernel_rfl) HP6 ?_
              apply Exists.intro
              refine ⟨fun _ _ _ h => h, .inl ⟨by kernel_rfl, fun w9 h9 => ?_⟩, fun HP7 => ?_⟩
              · clear h9; go_simp; first | done | rfl
              clear HP6
              refine R_pure 7 rfl (by kernel_rfl) HP7 ?_
              apply Exists.intro
              refine ⟨fun _ _ _ h => h, .inl ⟨by kernel_rfl, fun w9 h9 => ?_⟩, fun HP8 => ?_⟩
              · clear h9; go_simp; first | done | rfl
              clear HP7
              refine R_take 8 rfl (by kernel_rfl) HP8 ?_
              apply Exists.intro
              refine ⟨fun _ _ _ h => h, .inl ⟨by kernel_rfl, fun w9 h9 => ?_⟩, fun HP9 => ?_⟩
              · obtain ⟨h0, h1⟩ := h9; go_simp; first | done | rfl
              clear HP8
              refine R_pure 9 rfl (by kernel_rfl) HP9 ?_
              apply Exists.intro
              refine ⟨fun _ _ _ h => h, .inl ⟨by kernel_rfl, fun w9 h9 => ?_⟩, fun HP10 => ?_⟩
              · clear h9; go_simp; first | done | rfl
              clear HP9
              refine R_pure 10 rfl (by kernel_rfl) HP10 ?_
              apply Exists.intro
              refine ⟨fun _ _ _ h => h, .inl ⟨by kernel_rfl, fun w9 h9 => ?_⟩, fun HP11 => ?_⟩
              · clear h9; go_simp; first | done | rfl
              clear HP10
              refine R_pure 11 rfl (by kernel_rfl) HP11 ?_
              apply Exists.intro
              refine ⟨fun _ _ _ h => h, .inl ⟨by kernel_rfl, fun w9 h9 => ?_⟩, fun HP12 => ?_⟩
              · clear h9; go_simp; first | done | rfl
              clear HP11
              refine R_all [12] (by kernel_rfl) ?_
              refine AllR.cons (i := 12) rfl (fun K9 HK9 => ?_) ?_
              · go_simp
                refine HK9.out _ _ (.inr ph1.out) (fun HP13 => ?_)
                clear HK9 K9
                refine R_pure 13 rfl (by kernel_rfl) HP13 ?_
                apply Exists.intro
                refine ⟨fun _ _ _ h => h, .inl ⟨by kernel_rfl, fun w9 h9 => ?_⟩, fun HP14 => ?_⟩
                · clear h9; go_simp; first | done | rfl
                clear HP13
                refine R_all [14] (by kernel_rfl) ?_
                refine AllR.cons (i := 14) rfl (fun K9 HK9 => ?_) ?_
                · go_simp
                  refine HK9.out _ _ (.inr ph2.out) (fun HP15 => ?_)
                  clear HK9 K9
                  refine R_all [15] (by kernel_rfl) ?_
                  refine AllR.cons (i := 15) rfl (fun K9 HK9 => ?_) ?_
                  · go_simp
                    refine HK9.out _ _ (.inr ph3.out) (fun HP16 => ?_)
                    clear HK9 K9
                    refine R_pure 16 rfl (by kernel_rfl) HP16 ?_
                    apply Exists.intro
                    refine ⟨fun _ _ _ h => h, .inl ⟨by kernel_rfl, fun w9 h9 => ?_⟩, fun HP17 => ?_⟩
                    · clear h9; go_simp; first | done | rfl
                    clear HP16
                    refine R_all [17] (by kernel_rfl) ?_
                    refine AllR.cons (i := 17) rfl (fun K9 HK9 => ?_) ?_
                    · go_simp
                      refine HK9.out _ _ (.inr ph4.out) (fun HP18 => ?_)
                      clear HK9 K9
                      refine R_done (by kernel_rfl) ?_
                      go_wp2
                      go_ret
                      refine ⟨by rw [he.out]; rfl, ⟨⟨k4, ?_, m4.perm (put_name he.out), Hd.out.g.ne⟩, Hd.out.ok.add⟩, ?_⟩
                      · exact (((m2.perm (put_who he.out)).frame c3 Hd.out.g.ne).frame c4 Hd.out.g.ne)
                      · exact ((((Chg.of_below hb (FG p a b)).drew.then (c1.mono fun g _ e => .inr (.inl e))).then (c2.mono fun g _ e => .inr (.inl e))).then (c3.mono fun g _ e => .inr (.inr e))).then (c4.mono fun g _ e => .inr (.inr e))
                    exact AllR.nil
                  exact AllR.nil
                exact AllR.nil
              exact AllR.nil
end Go.Proofs.YtmkfpaohlmejkaaDoor
