/- The document's has, dead and wrong of package signal walked; bounds stand in the statements. -/
import Derived.Test.YtameidoaenoppaaGreatDoorWb
import Derived.Test.YtameidoaenoppaaGreatDoorDraw
import Derived.Test.YtameidoaenoppaaGreatDoorLRa
import Derived.Test.YtameidoaenoppaaGreatDoorLOa
namespace Go.Proofs.YtameidoaenoppaaGreatDoor
open Go.RowKit

set_option maxRecDepth 100000 in
set_option maxHeartbeats 2000000 in
theorem dhas_any (w : World) (A : Option Addr) (c : Nat) (l : List Int) (p : Int) (hs : Src w eI64 A c l) (hn : l.length ≤ 9000000000000000000) :
    Calls Tryz.prog 34 #[.slice A l.length c, .int .i64 p] w fun e w' => e = .returned (.bool (decide (p ∈ l))) ∧ w' = w := by
  have HS := Kp.mk hs
  clear hs
  obtain ⟨n, hnn⟩ : ∃ n, n = l.length := ⟨_, rfl⟩
  have HN := Kp.mk hnn
  rw [← hnn] at hn ⊢
  clear hnn
  go_enter Tryz.func34, Tryz.ntmps34
  go_wp2
  go_loop [6, 9] (fun _ i => ∃ k : Nat, k ≤ n ∧ i = .int .i64 k ∧ Kp (p ∉ l.take k)) (fun _ i => n - (intOf i).toNat)
  case atStart => exact ⟨0, Nat.zero_le _, rfl, ⟨by simp⟩⟩
  case round =>
    obtain ⟨k, hk, rfl, HJ⟩ := hrel
    by_cases hlt : k < n
    · obtain ⟨x, hx⟩ : ∃ x, l[k]? = some x := ⟨_, List.getElem?_eq_getElem (by have := HN.out; omega)⟩
      obtain ⟨ad, rfl⟩ : ∃ ad, A = some ad := by
        cases A with
        | none => have h9 := (HS.out.none rfl).1; rw [h9] at hx; simp at hx
        | some ad => exact ⟨ad, rfl⟩
      obtain ⟨g, o, rfl⟩ := HS.out.addr (by have := HN.out; omega)
      have a0 := HS.out.i64 k x hx
      have hst : l.take (k + 1) = l.take k ++ [x] := by rw [List.take_add_one, hx]; rfl
      have k0 : (0 : Int) ≤ (k : Int) := by omega
      have k1 : (k : Int) < (n : Int) := by omega
      have HX := Kp.mk hx
      have HST := Kp.mk hst
      clear hx hst
      by_cases hpx : x = p
      · have hb : (x == p) = true := by simpa using hpx
        have HT : Kp (decide (p ∈ l) = true) := ⟨decide_eq_true (by rw [← hpx]; exact List.mem_of_getElem? HX.out)⟩
        clear hpx
        go_wp2
        go_ret
        exact ⟨by rw [HT.out]; rfl, rfl⟩
      · have hb : (x == p) = false := by simpa using hpx
        have HT : Kp (p ∉ l.take (k + 1)) := ⟨by rw [HST.out, List.mem_append, List.mem_singleton]; rintro (h | h); exact HJ.out h; exact hpx h.symm⟩
        clear hpx
        go_wp2
        go_round
        case rel => exact ⟨k + 1, by omega, by go_num, HT⟩
        case measure => simp [intOf]; omega
    · have HT : Kp (decide (p ∈ l) = false) := ⟨decide_eq_false (by have := HJ.out; rwa [List.take_of_length_le (by have := HN.out; omega)] at this)⟩
      go_wp2
      go_ret
      exact ⟨by rw [HT.out]; rfl, rfl⟩
set_option maxRecDepth 100000 in
set_option maxHeartbeats 2000000 in
theorem ddead_any (w : World) (A : Option Addr) (c : Nat) (l : List Dv) (p : Int) (hs : Src w eDv A c l) (hn : l.length ≤ 9000000000000000000) :
    Calls Tryz.prog 33 #[.slice A l.length c, .int .i64 p] w fun e w' => e = .returned (.bool (hasV l p)) ∧ Below w.heap.size w w' := by
  have HS := Kp.mk hs
  clear hs
  obtain ⟨n, hnn⟩ : ∃ n, n = l.length := ⟨_, rfl⟩
  have HN := Kp.mk hnn
  rw [← hnn] at hn ⊢
  clear hnn
  go_enter Tryz.func33, Tryz.ntmps33
  go_wp2
  go_loopw [6, 9] (fun _ i wr => ∃ k : Nat, k ≤ n ∧ i = .int .i64 k ∧ Kp (hasV (l.take k) p = false) ∧ Kp (Below w.heap.size w wr)) (fun _ i _ => n - (intOf i).toNat)
  case atStart => exact ⟨0, Nat.zero_le _, rfl, ⟨rfl⟩, ⟨Below.refl _ _⟩⟩
  case round =>
    obtain ⟨k, hk, rfl, HJ, HB⟩ := hrel
    by_cases hlt : k < n
    · obtain ⟨x, hx⟩ : ∃ x, l[k]? = some x := ⟨_, List.getElem?_eq_getElem (by have := HN.out; omega)⟩
      obtain ⟨ad, rfl⟩ : ∃ ad, A = some ad := by
        cases A with
        | none => have h9 := (HS.out.none rfl).1; rw [h9] at hx; simp at hx
        | some ad => exact ⟨ad, rfl⟩
      obtain ⟨g, o, rfl⟩ := HS.out.addr (by have := HN.out; omega)
      obtain ⟨a0, a1⟩ := (HS.out.below HB.out).dv k x hx
      have hsn := hasV_snoc l p k x hx
      rw [HJ.out, Bool.false_or] at hsn
      have HSN := Kp.mk hsn
      have k0 : (0 : Int) ≤ (k : Int) := by omega
      have k1 : (k : Int) < (n : Int) := by omega
      have HB1 := Kp.mk (HB.out.alloc HB.out.size (.cells #[.int .i64 x.p, .slice x.A x.n x.c] 48))
      clear hx hsn
      by_cases hpx : x.p = p
      · have hb : (x.p == p) = true := by simpa using hpx
        have HT : Kp (hasV l p = true) := ⟨hasV_mono (by rw [HSN.out]; exact decide_eq_true hpx)⟩
        clear hpx
        go_wp2
        go_ret
        exact ⟨by rw [HT.out]; rfl, HB1.out⟩
      · have hb : (x.p == p) = false := by simpa using hpx
        have HT : Kp (hasV (l.take (k + 1)) p = false) := ⟨by rw [HSN.out]; exact decide_eq_false hpx⟩
        clear hpx
        go_wp2
        go_roundw
        case rel => exact ⟨k + 1, by omega, by go_num, HT, HB1⟩
        case measure => simp [intOf]; omega
    · have HT : Kp (hasV l p = false) := ⟨by have := HJ.out; rwa [List.take_of_length_le (by have := HN.out; omega)] at this⟩
      go_wp2
      go_ret
      exact ⟨by rw [HT.out]; rfl, HB.out⟩
theorem badP_app (a b : List Int) : badP (a ++ b) = (badP a || badP b) := List.any_append ..
set_option maxRecDepth 100000 in
set_option maxHeartbeats 16000000 in
theorem dwrong_any (w : World) (A B D : Option Addr) (c1 c2 c3 : Nat) (live traps : List Int) (vs : List Dv) (ds : List Dth) (ha : Src w eI64 A c1 live) (hb : Src w eI64 B c2 traps) (hd : Src w eDv D c3 vs) (hr : RdD w vs ds) (hG : ∀ d ∈ ds, TxG d.r)
    (hn1 : live.length ≤ 2000000) (hn2 : traps.length ≤ 2000000) (hn3 : vs.length ≤ 2000000) (hcc : vs.length ≤ c3) (hn4 : ∀ d ∈ ds, d.r.length ≤ 9000000000000) :
    Calls Tryz.prog 31 #[.slice A live.length c1, .slice B traps.length c2, .slice D vs.length c3] w fun e w' => e = .returned (.int .i64 (wrongE live traps ds)) ∧ Below w.heap.size w w' := by
  have HL := Kp.mk ha
  have HTR := Kp.mk hb
  have HD := Kp.mk hd
  have HR := Kp.mk hr
  have HG := Kp.mk hG
  have H4 := Kp.mk hn4
  have HN1 := Kp.mk hn1
  have HN2 := Kp.mk hn2
  clear ha hb hd hr hG hn4
  obtain ⟨n, hn⟩ : ∃ n, n = vs.length := ⟨_, rfl⟩
  obtain ⟨m1, hm1⟩ : ∃ n, n = live.length := ⟨_, rfl⟩
  obtain ⟨m2, hm2⟩ : ∃ n, n = traps.length := ⟨_, rfl⟩
  have HN := Kp.mk hn
  have HM1 := Kp.mk hm1
  have HM2 := Kp.mk hm2
  have HND : Kp (n = ds.length) := ⟨by rw [hn, HR.out.len]⟩
  have HCC : Kp (n ≤ c3) := ⟨by rw [hn]; exact hcc⟩
  rw [← hn, ← hm1, ← hm2]
  rw [← hn] at hn3
  rw [← hm1] at hn1
  rw [← hm2] at hn2
  clear hn hm1 hm2 hcc
  have hown : Own w 2 eI64 (.slice none 0 0) [] := Own.nil _ _ _
  have hs1 := HL.out
  go_enter Tryz.func31, Tryz.ntmps31
  go_upto_region 3 with (at_builtin; refine app_ev T50 rfl _ _ rfl hown rfl hs1 HM1.out rfl (by simp only [List.length_nil]; have := HM1.out; omega) (by simp only [List.length_nil]; have := HM1.out; omega) ?_; intro A1 q1 k1 w2 a0 a1 a2 a3; rw [List.nil_append] at a1; have A1' := Kp.mk a1; have A2' := Kp.mk a2; have A3' := Kp.mk a3; have A0' := a0; clear a1 a2 a3)
  obtain rfl : q1 = m1 := by have h1 := A0'.out; simp only [List.length_nil] at h1; have := HM1.out; omega
  have HB2 : Kp (Below w.heap.size w w2) := ⟨chg_below (Below.refl _ _) A2'.out (fun g hg => by cases hg) (Nat.le_refl _)⟩
  have HF2 : Kp (Fresh w (.slice A1 q1 k1)) := ⟨(Fresh.nil w 0 0).app (Nat.le_refl _) A3'.out⟩
  have hs2 := HTR.out.below HB2.out
  clear hown A0' hs1
  go_upto_region 4 with (at_builtin; refine app_ev T50 rfl _ _ rfl A1'.out rfl hs2 HM2.out rfl (by have := HM1.out; have := HM2.out; omega) (by have := HM1.out; have := HM2.out; omega) ?_; intro A4 q4 k4 w4 d0 d1 d2 d3; have D1 := Kp.mk d1; have D2 := Kp.mk d2; have D3 := Kp.mk d3; have D0 := d0; clear d0 d1 d2 d3)
  have HQ4 : Kp (q4 = q1 + m2) := ⟨by have h1 := D0.out; have := HM1.out; have := HM2.out; omega⟩
  have HB4 : Kp (Below w.heap.size w w4) := ⟨chg_below HB2.out D2.out (fun g hg => HF2.out g hg) HB2.out.size⟩
  have HF4 : Kp (Fresh w (.slice A4 q4 k4)) := ⟨HF2.out.app HB2.out.size D3.out⟩
  clear D0 hs2
  go_wp2
  go_loopw [7, 9, 28] (fun l _ i wr => ∃ (k : Nat) (B5 : Option Addr) (mm cc : Nat), k ≤ n ∧ i = .int .i64 k ∧ l = .slice B5 mm cc ∧ Kp (mm = q1 + m2 + k) ∧ Kp (Own wr 2 eI64 (.slice B5 mm cc) (live ++ traps ++ (pids ds).take k)) ∧ Kp (Fresh w (.slice B5 mm cc)) ∧ Kp (Below w.heap.size w wr)) (fun _ _ i _ => n - (intOf i).toNat)
  case atStart => exact ⟨0, A4, q4, k4, Nat.zero_le _, rfl, rfl, ⟨by have := HQ4.out; omega⟩, ⟨by rw [List.take_zero, List.append_nil]; exact D1.out⟩, HF4, HB4⟩
  case round =>
    obtain ⟨k, B5, mm, cc, hk, rfl, rfl, MMM, OO, FF, HBW⟩ := hrel
    by_cases hlt : k < n
    · obtain ⟨x, hx⟩ : ∃ x, vs[k]? = some x := ⟨_, List.getElem?_eq_getElem (by have := HN.out; omega)⟩
      obtain ⟨d, hd⟩ : ∃ d, ds[k]? = some d := ⟨_, List.getElem?_eq_getElem (by have := HND.out; omega)⟩
      have hpd := (HR.out.at_ k x d hx hd).1
      obtain ⟨ad, rfl⟩ : ∃ ad, D = some ad := by
        cases D with
        | none => have h9 := (HD.out.none rfl).1; rw [h9] at hx; simp at hx
        | some ad => exact ⟨ad, rfl⟩
      obtain ⟨g, o, rfl⟩ := HD.out.addr (by have := HN.out; omega)
      obtain ⟨a0, a1⟩ := (HD.out.below HBW.out).dv k x hx
      have hbx : Below wr.heap.size wr (wr.alloc (.cells #[.int .i64 x.p, .slice x.A x.n x.c] 48)) := (Below.refl _ _).alloc (Nat.le_refl _) _
      have HB1 := Kp.mk (bstep HBW.out HBW.out.size hbx)
      have OX := Kp.mk (OO.out.below hbx)
      have hpk : (pids ds)[k]? = some x.p := by unfold pids; rw [List.getElem?_map, hd, hpd]; rfl
      have PS : Kp (live ++ traps ++ (pids ds).take (k + 1) = live ++ traps ++ (pids ds).take k ++ [x.p]) := ⟨by rw [List.take_add_one, hpk, ← List.append_assoc]; rfl⟩
      have PL : Kp ((live ++ traps ++ (pids ds).take k).length = q1 + m2 + k) := ⟨by
        rw [List.length_append, List.length_append, List.length_take]
        unfold pids
        rw [List.length_map]
        have := HM1.out; have := HM2.out; have := HND.out
        omega⟩
      have k0 : (0 : Int) ≤ (k : Int) := by omega
      have k1 : (k : Int) < (n : Int) := by omega
      clear hx hd hpd hpk hbx
      go_wp2_with (at_builtin; refine app1_ev T50 x.p rfl _ _ rfl OX.out rfl rfl rfl (by simp) rfl (by have := PL.out; omega) (by have := PL.out; omega) ?_; intro A4 n4 c4 w4 d0 d1 d2 d3; have D0 := Kp.mk d0.out; have D1 := Kp.mk d1; have D2 := Kp.mk d2; have D3 := Kp.mk d3; clear d0 d1 d2 d3)
      go_roundw
      case rel => exact ⟨k + 1, A4, n4, c4, by omega, by go_num, rfl, ⟨by have := D0.out; have := PL.out; omega⟩, ⟨by rw [PS.out]; exact D1.out⟩, ⟨FF.out.app HB1.out.size D3.out⟩, ⟨chg_below HB1.out D2.out (fun g hg => FF.out g hg) HB1.out.size⟩⟩
      case measure => simp [intOf]; omega
    · obtain rfl : k = n := by omega
      have hall : live ++ traps ++ (pids ds).take k = live ++ traps ++ pids ds := by rw [List.take_of_length_le (by unfold pids; rw [List.length_map]; have := HND.out; omega)]
      rw [hall] at OO
      obtain ⟨al, hal⟩ : ∃ al, al = live ++ traps ++ pids ds := ⟨_, rfl⟩
      rw [← hal] at OO
      have HAL : Kp (badP al = (badP live || badP traps || badP (pids ds))) := ⟨by rw [hal, badP_app, badP_app]⟩
      have LAL : Kp (mm = al.length) := ⟨by
        rw [hal, List.length_append, List.length_append]
        unfold pids
        rw [List.length_map]
        have := HM1.out; have := HM2.out; have := HND.out; have := MMM.out
        omega⟩
      have hmm9 : mm ≤ 6000000 := by have := MMM.out; omega
      obtain ⟨wa, hwa⟩ : ∃ wa : World, wa = wr := ⟨_, rfl⟩
      rw [← hwa] at OO HBW ⊢
      clear hwa hall hal
      go_wp2
      go_loop [11, 40] (fun _ i => ∃ j : Nat, j ≤ mm ∧ i = .int .i64 j ∧ Kp (badP (al.take j) = false)) (fun _ i => mm - (intOf i).toNat)
      case atStart => exact ⟨0, Nat.zero_le _, rfl, ⟨rfl⟩⟩
      case round =>
        obtain ⟨j, hj, rfl, HJ⟩ := hrel
        by_cases hjt : j < mm
        · obtain ⟨x, hx⟩ : ∃ x, al[j]? = some x := ⟨_, List.getElem?_eq_getElem (by have := LAL.out; omega)⟩
          obtain ⟨ad, rfl⟩ : ∃ ad, B5 = some ad := by
            cases B5 with
            | none => have h9 := ((OO.out.src rfl).none rfl).1; rw [h9] at hx; simp at hx
            | some ad => exact ⟨ad, rfl⟩
          obtain ⟨g, o, rfl⟩ := (OO.out.src rfl).addr (by have := LAL.out; omega)
          have a0 := (OO.out.src rfl).i64 j x hx
          have hsn := badP_snoc al j x hx
          rw [HJ.out, Bool.false_or] at hsn
          have HSN := Kp.mk hsn
          have j0 : (0 : Int) ≤ (j : Int) := by omega
          have j1 : (j : Int) < (mm : Int) := by omega
          clear hsn hx
          cases hb : decide (IsPid x)
          · have HBD : Kp (wrongE live traps ds = 1) := ⟨by
              refine wrongE_1 ?_
              have h1 := badP_mono (show badP (al.take (j + 1)) = true by rw [HSN.out, hb]; rfl)
              rw [HAL.out, Bool.or_eq_true, Bool.or_eq_true] at h1
              rcases h1 with (h1 | h1) | h1
              · exact .inl h1
              · exact .inr (.inl h1)
              · exact .inr (.inr h1)⟩
            have HPD := Kp.mk (dPid_any wa x)
            rw [hb] at HPD
            clear hb
            go_wp2_with (go_at_call 46; refine HPD.out.mono ?_; rintro e w1 ⟨rfl, hw1⟩; obtain rfl := hw1.symm)
            go_ret
            exact ⟨by rw [HBD.out]; rfl, HBW.out⟩
          · have HSN2 : Kp (badP (al.take (j + 1)) = false) := ⟨by rw [HSN.out, hb]; rfl⟩
            have HPD := Kp.mk (dPid_any wa x)
            rw [hb] at HPD
            clear hb
            go_wp2_with (go_at_call 46; refine HPD.out.mono ?_; rintro e w1 ⟨rfl, hw1⟩; obtain rfl := hw1.symm)
            go_round
            case rel => exact ⟨j + 1, by omega, by go_num, HSN2⟩
            case measure => simp [intOf]; omega
        · have HP3 : Kp (¬ (badP live = true ∨ badP traps = true ∨ badP (pids ds) = true)) := ⟨by
            have h1 := HJ.out
            rw [List.take_of_length_le (by have := LAL.out; omega), HAL.out] at h1
            rw [Bool.or_eq_false_iff, Bool.or_eq_false_iff] at h1
            rw [h1.1.1, h1.1.2, h1.2]
            decide⟩
          have hj9 : j = mm := by omega
          subst hj9
          have HBW1 := HBW
          clear HJ HBW
          go_wp2
          go_loopw [13, 14, 15, 50] (fun _ _ _ i wr => ∃ j : Nat, j ≤ k ∧ i = .int .i64 j ∧ Kp (∀ (i : Nat) d', i < j → ds[i]? = some d' → (rightE d'.r).1 = 0) ∧ Kp (Below w.heap.size w wr)) (fun _ _ _ i _ => k - (intOf i).toNat)
          case atStart => exact ⟨0, Nat.zero_le _, rfl, ⟨fun i d' hi => absurd hi (Nat.not_lt_zero _)⟩, HBW1⟩
          case round =>
            obtain ⟨j, hj, rfl, HJ, HBW⟩ := hrel
            by_cases hlt2 : j < k
            · obtain ⟨x, hx⟩ : ∃ x, vs[j]? = some x := ⟨_, List.getElem?_eq_getElem (by have := HN.out; omega)⟩
              obtain ⟨d, hd⟩ : ∃ d, ds[j]? = some d := ⟨_, List.getElem?_eq_getElem (by have := HND.out; omega)⟩
              obtain ⟨hpd, hnd, hsd⟩ := HR.out.at_ j x d hx hd
              obtain ⟨ad, rfl⟩ : ∃ ad, D = some ad := by
                cases D with
                | none => have h9 := (HD.out.none rfl).1; rw [h9] at hx; simp at hx
                | some ad => exact ⟨ad, rfl⟩
              obtain ⟨g, o, rfl⟩ := HD.out.addr (by have := HN.out; omega)
              obtain ⟨a0, a1⟩ := (HD.out.below HBW.out).dv j x hx
              have HB1 := Kp.mk (HBW.out.alloc HBW.out.size (.cells #[.int .i64 x.p, .slice x.A x.n x.c] 48))
              have hRT := rright_any (wr.alloc (.cells #[.int .i64 x.p, .slice x.A x.n x.c] 48)) x.A x.c d.r (hsd.below HB1.out) (H4.out d (List.mem_of_getElem? hd)) (HG.out d (List.mem_of_getElem? hd))
              rw [← hnd] at hRT
              unfold rightV at hRT
              obtain ⟨E1, hE1⟩ : ∃ E1, E1 = (rightE d.r).1 := ⟨_, rfl⟩
              obtain ⟨E2, hE2⟩ : ∃ E2, E2 = (rightE d.r).2 := ⟨_, rfl⟩
              rw [← hE1, ← hE2] at hRT
              have HRT := Kp.mk hRT
              have HDD := Kp.mk hd
              have HE1 := Kp.mk hE1
              have j0 : (0 : Int) ≤ (j : Int) := by omega
              have j1 : (j : Int) < (k : Int) := by omega
              clear hRT hx hd hpd hnd hsd hE1 hE2
              by_cases h0 : E1 = 0
              · have hb0 : (E1 != 0) = false := by simpa using h0
                have HNX : Kp (∀ (i : Nat) d', i < j + 1 → ds[i]? = some d' → (rightE d'.r).1 = 0) := ⟨fun i d' hi hd' => by
                  rcases Nat.lt_succ_iff_lt_or_eq.1 hi with h | h
                  · exact HJ.out i d' h hd'
                  · subst h; rw [HDD.out] at hd'; cases hd'; rw [← HE1.out]; exact h0⟩
                clear h0
                go_wp2_with (go_at_call 63; refine HRT.out.mono ?_; rintro e w2 ⟨rfl, b2⟩; have HB2 := Kp.mk (bstep HB1.out HB1.out.size b2); clear b2)
                go_roundw
                case rel => exact ⟨j + 1, by omega, by go_num, HNX, HB2⟩
                case measure => simp [intOf]; omega
              · have hb0 : (E1 != 0) = true := by simpa using h0
                have E : Kp (wrongE live traps ds = E1) := ⟨by rw [HE1.out]; exact wrongE_2 HP3.out HDD.out (by rw [← HE1.out]; exact h0) HJ.out⟩
                clear h0
                go_wp2_with (go_at_call 63; refine HRT.out.mono ?_; rintro e w2 ⟨rfl, b2⟩; have HB2 := Kp.mk (bstep HB1.out HB1.out.size b2); clear b2)
                go_ret
                exact ⟨by rw [E.out]; rfl, HB2.out⟩
            · have HP4 : Kp (∀ d ∈ ds, (rightE d.r).1 = 0) := ⟨fun d hd => by
                obtain ⟨i, hi, he⟩ := List.mem_iff_getElem.1 hd
                exact HJ.out i d (by have := HND.out; omega) (by rw [List.getElem?_eq_getElem hi, he])⟩
              have hk3 : j = k := by omega
              subst hk3
              have HBW2 := HBW
              clear HJ HBW HBW1
              obtain ⟨wb, rfl⟩ : ∃ wb : World, wb = wr := ⟨_, rfl⟩
              go_wp2
              go_loopw [16, 17, 66] (fun _ _ i wr => ∃ k : Nat, k ≤ j ∧ i = .int .i64 k ∧ Kp (((pids ds).take k).Nodup) ∧ Kp (Below w.heap.size w wr)) (fun _ _ i _ => j - (intOf i).toNat)
              case atStart => exact ⟨0, Nat.zero_le _, rfl, ⟨by simp⟩, HBW2⟩
              case round =>
                obtain ⟨k, hk, rfl, HJ, HBW⟩ := hrel
                by_cases hlt3 : k < j
                · obtain ⟨x, hx⟩ : ∃ x, vs[k]? = some x := ⟨_, List.getElem?_eq_getElem (by have := HN.out; omega)⟩
                  obtain ⟨d, hd⟩ : ∃ d, ds[k]? = some d := ⟨_, List.getElem?_eq_getElem (by have := HND.out; omega)⟩
                  have hpd := (HR.out.at_ k x d hx hd).1
                  obtain ⟨ad, rfl⟩ : ∃ ad, D = some ad := by
                    cases D with
                    | none => have h9 := (HD.out.none rfl).1; rw [h9] at hx; simp at hx
                    | some ad => exact ⟨ad, rfl⟩
                  obtain ⟨g, o, rfl⟩ := HD.out.addr (by have := HN.out; omega)
                  obtain ⟨a0, a1⟩ := (HD.out.below HBW.out).dv k x hx
                  have HB1 := Kp.mk (HBW.out.alloc HBW.out.size (.cells #[.int .i64 x.p, .slice x.A x.n x.c] 48))
                  have hpk : (pids ds)[k]? = some x.p := by unfold pids; rw [List.getElem?_map, hd, hpd]; rfl
                  have htk : (vs.take k).length = k := by rw [List.length_take]; have := HN.out; omega
                  have hCF := ddead_any (wr.alloc (.cells #[.int .i64 x.p, .slice x.A x.n x.c] 48)).drew (some ⟨g, o, none⟩) c3 (vs.take k) x.p (((HD.out.below HB1.out).take k).below (Below.refl _ _).drew) (by omega)
                  rw [htk, has_vd HR.out] at hCF
                  have HCF := Kp.mk hCF
                  have HPK := Kp.mk hpk
                  have XB : Kp ((wr.alloc (.cells #[.int .i64 x.p, .slice x.A x.n x.c] 48)).drew.cell? ⟨wr.heap.size, 0, none⟩ = some (.int .i64 x.p)) := ⟨blk_c (blk_new wr (.cells #[.int .i64 x.p, .slice x.A x.n x.c] 48)) 0⟩
                  have k0 : (0 : Int) ≤ (k : Int) := by omega
                  have k1 : (k : Int) < (j : Int) := by omega
                  have hnc : j ≤ c3 := HCC.out
                  have k2 : (k : Int) ≤ (c3 : Int) := by omega
                  have k3 : k ≤ c3 := by omega
                  clear hCF hx hd hpd htk hpk
                  cases hb : decide (x.p ∈ (pids ds).take k)
                  · rw [hb] at HCF
                    have HNX : Kp (((pids ds).take (k + 1)).Nodup) := ⟨by
                      obtain ⟨hkl, hke⟩ := List.getElem?_eq_some_iff.1 HPK.out
                      rw [List.take_succ_eq_append_getElem hkl, hke]
                      exact nodup_snoc HJ.out (of_decide_eq_false hb)⟩
                    clear hb
                    go_upto_region 25 with fail
                    refine R_begin 999 (fun w9 => w9.cell? ⟨wr.heap.size, 0, none⟩ = some (.int .i64 x.p)) (by kernel_rfl) XB.out (fun HP0 => ?_)
                    refine R_pure 0 rfl (by kernel_rfl) HP0 ?_
                    apply Exists.intro
                    refine ⟨fun _ _ _ h => h, .inl ⟨by kernel_rfl, fun w9 h9 => ?_⟩, fun HP1 => ?_⟩
                    · clear h9; go_simp; first | done | rfl
                    clear HP0
                    refine R_pure 1 rfl (by kernel_rfl) HP1 ?_
                    apply Exists.intro
                    refine ⟨fun _ _ _ h => h, .inl ⟨by kernel_rfl, fun w9 h9 => ?_⟩, fun HP2 => ?_⟩
                    · clear h9; go_simp; first | done | rfl
                    clear HP1
                    refine R_pure 2 rfl (by kernel_rfl) HP2 ?_
                    apply Exists.intro
                    refine ⟨fun _ _ _ h => h, .inl ⟨by kernel_rfl, fun w9 h9 => ?_⟩, fun HP3 => ?_⟩
                    · clear h9; go_simp; first | done | rfl
                    clear HP2
                    refine R_pure 3 rfl (by kernel_rfl) HP3 ?_
                    apply Exists.intro
                    refine ⟨fun _ _ _ h => h, .inl ⟨by kernel_rfl, fun w9 h9 => ?_⟩, fun HP4 => ?_⟩
                    · clear h9; go_simp; first | done | rfl
                    clear HP3
                    refine R_take 4 rfl (by kernel_rfl) HP4 ?_
                    apply Exists.intro
                    refine ⟨fun _ _ _ h => h, .inl ⟨by kernel_rfl, fun w9 h9 => ?_⟩, fun HP5 => ?_⟩
                    · obtain s1 := h9; go_simp; first | done | rfl
                    clear HP4
                    refine R_all [5] (by kernel_rfl) ?_
                    refine AllR.cons (i := 5) rfl (fun K9 HK9 => ?_) ?_
                    · go_simp
                      refine HCF.out.mono ?_
                      rintro e w2 ⟨rfl, b2⟩
                      have HB2 := Kp.mk (bstep HB1.out.drew HB1.out.drew.size b2)
                      have XB2 := (b2.cell (World.block_lt_of_cell? _ _ XB.out)).trans XB.out
                      have XB3 := Kp.mk XB2
                      clear b2 XB2
                      refine HK9.out _ _ (.inr XB3.out) (fun HP6 => ?_)
                      clear HK9 K9
                      refine R_done (by kernel_rfl) ?_
                      go_wp2
                      go_roundw
                      case rel => exact ⟨k + 1, by omega, by go_num, HNX, HB2⟩
                      case measure => simp [intOf]; omega
                    exact AllR.nil
                  · rw [hb] at HCF
                    have E : Kp (wrongE live traps ds = 6) := ⟨by
                      rw [wrongE_3 HP3.out HP4.out, if_pos]
                      intro hnd
                      obtain ⟨hkl, hke⟩ := List.getElem?_eq_some_iff.1 HPK.out
                      have h1 := hnd.sublist (List.take_sublist (k + 1) (pids ds))
                      rw [List.take_succ_eq_append_getElem hkl, hke, List.nodup_append] at h1
                      exact h1.2.2 _ (of_decide_eq_true hb) _ (List.mem_singleton.2 rfl) rfl⟩
                    clear hb
                    go_upto_region 25 with fail
                    refine R_begin 999 (fun w9 => w9.cell? ⟨wr.heap.size, 0, none⟩ = some (.int .i64 x.p)) (by kernel_rfl) XB.out (fun HP0 => ?_)
                    refine R_pure 0 rfl (by kernel_rfl) HP0 ?_
                    apply Exists.intro
                    refine ⟨fun _ _ _ h => h, .inl ⟨by kernel_rfl, fun w9 h9 => ?_⟩, fun HP1 => ?_⟩
                    · clear h9; go_simp; first | done | rfl
                    clear HP0
                    refine R_pure 1 rfl (by kernel_rfl) HP1 ?_
                    apply Exists.intro
                    refine ⟨fun _ _ _ h => h, .inl ⟨by kernel_rfl, fun w9 h9 => ?_⟩, fun HP2 => ?_⟩
                    · clear h9; go_simp; first | done | rfl
                    clear HP1
                    refine R_pure 2 rfl (by kernel_rfl) HP2 ?_
                    apply Exists.intro
                    refine ⟨fun _ _ _ h => h, .inl ⟨by kernel_rfl, fun w9 h9 => ?_⟩, fun HP3 => ?_⟩
                    · clear h9; go_simp; first | done | rfl
                    clear HP2
                    refine R_pure 3 rfl (by kernel_rfl) HP3 ?_
                    apply Exists.intro
                    refine ⟨fun _ _ _ h => h, .inl ⟨by kernel_rfl, fun w9 h9 => ?_⟩, fun HP4 => ?_⟩
                    · clear h9; go_simp; first | done | rfl
                    clear HP3
                    refine R_take 4 rfl (by kernel_rfl) HP4 ?_
                    apply Exists.intro
                    refine ⟨fun _ _ _ h => h, .inl ⟨by kernel_rfl, fun w9 h9 => ?_⟩, fun HP5 => ?_⟩
                    · obtain s1 := h9; go_simp; first | done | rfl
                    clear HP4
                    refine R_all [5] (by kernel_rfl) ?_
                    refine AllR.cons (i := 5) rfl (fun K9 HK9 => ?_) ?_
                    · go_simp
                      refine HCF.out.mono ?_
                      rintro e w2 ⟨rfl, b2⟩
                      have HB2 := Kp.mk (bstep HB1.out.drew HB1.out.drew.size b2)
                      have XB2 := (b2.cell (World.block_lt_of_cell? _ _ XB.out)).trans XB.out
                      have XB3 := Kp.mk XB2
                      clear b2 XB2
                      refine HK9.out _ _ (.inr XB3.out) (fun HP6 => ?_)
                      clear HK9 K9
                      refine R_done (by kernel_rfl) ?_
                      go_wp2
                      go_ret
                      exact ⟨by rw [E.out]; rfl, HB2.out⟩
                    exact AllR.nil
                · have HP5 : Kp ((pids ds).Nodup) := ⟨by
                    have := HJ.out
                    rwa [List.take_of_length_le (by unfold pids; rw [List.length_map]; have := HND.out; omega)] at this⟩
                  have hk4 : k = j := by omega
                  subst hk4
                  have HBW3 := HBW
                  clear HJ HBW HBW2
                  obtain ⟨wc, rfl⟩ : ∃ wc : World, wc = wr := ⟨_, rfl⟩
                  go_wp2
                  go_loopw [19, 80] (fun _ i wr => ∃ j : Nat, j ≤ k ∧ i = .int .i64 j ∧ Kp (∀ (i : Nat) d', i < j → ds[i]? = some d' → d'.p ∈ live) ∧ Kp (Below w.heap.size w wr)) (fun _ i _ => k - (intOf i).toNat)
                  case atStart => exact ⟨0, Nat.zero_le _, rfl, ⟨fun i d' hi => absurd hi (Nat.not_lt_zero _)⟩, HBW3⟩
                  case round =>
                    obtain ⟨j, hj, rfl, HJ, HBW⟩ := hrel
                    by_cases hlt4 : j < k
                    · obtain ⟨x, hx⟩ : ∃ x, vs[j]? = some x := ⟨_, List.getElem?_eq_getElem (by have := HN.out; omega)⟩
                      obtain ⟨d, hd⟩ : ∃ d, ds[j]? = some d := ⟨_, List.getElem?_eq_getElem (by have := HND.out; omega)⟩
                      have hpd := (HR.out.at_ j x d hx hd).1
                      obtain ⟨ad, rfl⟩ : ∃ ad, D = some ad := by
                        cases D with
                        | none => have h9 := (HD.out.none rfl).1; rw [h9] at hx; simp at hx
                        | some ad => exact ⟨ad, rfl⟩
                      obtain ⟨g, o, rfl⟩ := HD.out.addr (by have := HN.out; omega)
                      obtain ⟨a0, a1⟩ := (HD.out.below HBW.out).dv j x hx
                      have HB1 := Kp.mk (HBW.out.alloc HBW.out.size (.cells #[.int .i64 x.p, .slice x.A x.n x.c] 48))
                      have hCT := dhas_any (wr.alloc (.cells #[.int .i64 x.p, .slice x.A x.n x.c] 48)) A c1 live x.p (HL.out.below HB1.out) (by have := HN1.out; omega)
                      rw [← HM1.out] at hCT
                      have HCT := Kp.mk hCT
                      have HDD := Kp.mk hd
                      have HPD := Kp.mk hpd
                      have j0 : (0 : Int) ≤ (j : Int) := by omega
                      have j1 : (j : Int) < (k : Int) := by omega
                      clear hCT hx hd hpd
                      cases hb : decide (x.p ∈ live)
                      · rw [hb] at HCT
                        have E : Kp (wrongE live traps ds = 131) := ⟨by
                          rw [wrongE_3 HP3.out HP4.out, if_neg (fun h => h HP5.out), if_pos ⟨d, List.mem_of_getElem? HDD.out, by rw [← HPD.out]; exact of_decide_eq_false hb⟩]⟩
                        clear hb
                        go_wp2_with (go_at_call 34; refine HCT.out.mono ?_; rintro e w2 ⟨rfl, hw2⟩; obtain rfl := hw2.symm)
                        go_ret
                        exact ⟨by rw [E.out]; rfl, HB1.out⟩
                      · rw [hb] at HCT
                        have HNX : Kp (∀ (i : Nat) d', i < j + 1 → ds[i]? = some d' → d'.p ∈ live) := ⟨fun i d' hi hd' => by
                          rcases Nat.lt_succ_iff_lt_or_eq.1 hi with h | h
                          · exact HJ.out i d' h hd'
                          · subst h; rw [HDD.out] at hd'; cases hd'; rw [← HPD.out]; exact of_decide_eq_true hb⟩
                        clear hb
                        go_wp2_with (go_at_call 34; refine HCT.out.mono ?_; rintro e w2 ⟨rfl, hw2⟩; obtain rfl := hw2.symm)
                        go_roundw
                        case rel => exact ⟨j + 1, by omega, by go_num, HNX, HB1⟩
                        case measure => simp [intOf]; omega
                    · have E : Kp (wrongE live traps ds = 0) := ⟨by
                        rw [wrongE_3 HP3.out HP4.out, if_neg (fun h => h HP5.out), if_neg]
                        rintro ⟨d, hd, hn⟩
                        obtain ⟨i, hi, he⟩ := List.mem_iff_getElem.1 hd
                        exact hn (HJ.out i d (by have := HND.out; omega) (by rw [List.getElem?_eq_getElem hi, he]))⟩
                      go_wp2
                      go_ret
                      exact ⟨by rw [E.out]; rfl, HBW.out⟩
end Go.Proofs.YtameidoaenoppaaGreatDoor
