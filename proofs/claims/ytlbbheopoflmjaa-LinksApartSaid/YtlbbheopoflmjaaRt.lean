/- The document's Group of package links; bounds stand in each statement. -/
import Derived.Test.YtlbbheopoflmjaaRp
import Derived.Test.YtlbbheopoflmjaaGr
namespace Go.Proofs.Ytlbbheopoflmjaa
open Go.RowKit

theorem Own.new1 (w : World) (n : Int) : Own (w.alloc (.cells #[.int .i64 n] 2)) 2 eI64 (.slice (some ⟨w.heap.size, 0, none⟩) 1 1) [n] :=
  ⟨⟨by simp [El.flat, eI64], .inr ⟨w.heap.size, 1, #[.int .i64 n], rfl, Nat.zero_le _, blk_new w _, Nat.le_refl _, by simp [maxLen], rfl, by simp [El.flat, eI64]⟩⟩⟩
set_option maxHeartbeats 1000000 in
theorem dgroup_bad (w : World) (q : Nat) (pid : Int) (h : decide (IsPid pid) = false) : Calls Try.prog 47 #[.pointer (some ⟨q, 0, none⟩), .int .i64 pid] w fun e w' => e = .returned (.slice none 0 0) ∧ w = w' := by
  go_enter Try.func47, Try.ntmps47
  go_wp2_with (go_at_call 20; refine (dPid_any _ pid).mono ?_; rintro e w' ⟨rfl, rfl⟩; rw [h])
  go_ret
  exact ⟨rfl, rfl⟩
set_option maxRecDepth 100000 in
set_option maxHeartbeats 8000000 in
theorem dgroup_ok (w : World) (q : Nat) (lv : Value) (L : List Bd) (pid : Int) (h : IsD w q lv L) (hn : L.length ≤ 1024) (hG : GoodL L) (hp : decide (IsPid pid) = true) :
    Calls Try.prog 47 #[.pointer (some ⟨q, 0, none⟩), .int .i64 pid] w (GroupPost w L pid) := by
  have HD := Kp.mk h
  have HG := Kp.mk hG
  have HPID := Kp.mk (of_decide_eq_true hp)
  clear h hG
  go_enter Try.func47, Try.ntmps47
  go_wp2_with (go_at_call 20; refine (dPid_any _ pid).mono ?_; rintro e w' ⟨rfl, rfl⟩; rw [hp])
  go_loopw [5, 6, 8, 9, 11] (fun v iv _ _ _ wr => ∃ (M : List Int) (i : Nat), i ≤ M.length ∧ M.length ≤ 1 + 2 * L.length ∧ iv = .int .i64 i ∧ Kp (Bfs L pid M (M.drop i)) ∧ Kp (Own wr 2 eI64 v M) ∧ Kp (Fresh w v) ∧ Kp (Below w.heap.size w wr)) (fun _ iv _ _ _ _ => 2 + 2 * L.length - (intOf iv).toNat)
  case atStart => exact ⟨[pid], 0, by simp, by simp, rfl, ⟨Bfs.start L pid⟩, ⟨Own.new1 _ _⟩, ⟨fun g hg => by cases hg; exact Nat.le_refl _⟩, ⟨(Below.refl _ _).alloc (Nat.le_refl _) _⟩⟩
  case round =>
    obtain ⟨M, i, hi, hMb, rfl, HBf, HV, HF, HB⟩ := hrel
    obtain ⟨A, c, hv, hcc, hcm, hs0, hs1⟩ := HV.out.shape
    subst hv
    obtain ⟨mM, hmM⟩ : ∃ mM, mM = M.length := ⟨_, rfl⟩
    have HMM := Kp.mk hmM
    rw [← hmM] at hi hcc HV HF ⊢
    have hmb : mM ≤ 3000 := by omega
    by_cases hlt : i < mM
    · have hiM : i < M.length := by omega
      obtain ⟨g, rfl⟩ : ∃ g, A = some ⟨g, 0, none⟩ := by
        cases A with
        | none => have h1 := (hs0 rfl).1; rw [h1] at hiM; simp at hiM
        | some y => obtain ⟨g, rfl⟩ := hs1 y rfl; exact ⟨g, rfl⟩
      obtain ⟨x, hx⟩ : ∃ x, x = M[i] := ⟨_, rfl⟩
      have hcx : wr.cell? ⟨g, i, none⟩ = some (.int .i64 x) := by
        have h1 := HV.out.elem i 0 hiM (by decide)
        rw [hx]; simpa [eI64] using h1
      have hBx : Kp (Bfs L pid M (x :: M.drop (i + 1))) := ⟨by have := HBf.out; rw [List.drop_eq_getElem_cons hiM, ← hx] at this; exact this⟩
      have i0 : (0 : Int) ≤ (i : Int) := by omega
      have i1 : (i : Int) < (mM : Int) := by omega
      obtain ⟨wo, rfl⟩ : ∃ wo : World, wo = wr := ⟨_, rfl⟩
      clear hs0 hs1 hmM hx hcc hcm hiM HBf
      go_wp2_with (go_at_call 46; refine (dpeers_any _ q lv L x (HD.out.below HB.out) (by omega) HG.out).mono ?_; rintro e w3 ⟨v, S, rfl, hS, hSf, hSb, hSS⟩; obtain ⟨AS, cS, hv, hcS, hmS, hs0, hs1⟩ := hS.shape; subst hv)
      obtain ⟨m, hm⟩ : ∃ m, m = S.length := ⟨_, rfl⟩
      rw [← hm] at hcS hS hSf ⊢
      have hSl : m ≤ 3000 := by
        have := nodup_len hSS.nodup (m := uni L pid) (fun y hy => Nb.uni pid ((hSS.2 y).1 hy))
        rw [uni_len] at this
        omega
      have HSM := Kp.mk hm
      have HSO := Kp.mk hS
      have HSF := Kp.mk hSf
      have HSB := Kp.mk hSb
      have HSS := Kp.mk hSS
      have HSN := Kp.mk hSS.nodup
      have HS0 := Kp.mk hs0
      have HS1 := Kp.mk hs1
      have hw3 : wo.heap.size ≤ w3.heap.size := hSb.size
      have hB3 : Kp (Below w.heap.size w w3) := ⟨bstep HB.out HB.out.size hSb⟩
      have hne3 : Kp (∀ g', (Value.slice AS m cS).ownBlock = some g' → (Value.slice (some ⟨g, 0, none⟩) mM c).ownBlock ≠ some g') := ⟨fun g' hg' e => by
        cases e
        have h1 := hSf g hg'
        have h2 := HV.out.lt (g := g) rfl
        omega⟩
      have HVB := Kp.mk (HV.out.below HSB.out)
      clear hm hS hSf hSb hSS hs0 hs1 hmS HV
      go_loopw [5, 8, 9, 11, 30] (fun v _ _ _ jv wi => ∃ (j : Nat), j ≤ m ∧ jv = .int .i64 j ∧ Kp (Own wi 2 eI64 v (M ++ news M (S.take j))) ∧ Kp (Fresh w v) ∧ Kp (Own wi 2 eI64 (.slice AS m cS) S) ∧ Kp (∀ g', (Value.slice AS m cS).ownBlock = some g' → v.ownBlock ≠ some g') ∧ Kp (Below w.heap.size w wi)) (fun _ _ _ _ jv _ => m - (intOf jv).toNat)
      case atStart => exact ⟨0, Nat.zero_le _, rfl, ⟨by simpa [news] using HVB.out⟩, HF, HSO, hne3, hB3⟩
      case round =>
        obtain ⟨j, hj, rfl, HVj, HFj, HSj, HNj, HBj⟩ := hrel
        obtain ⟨Av, cv, hvv, hcv, hmv, hv0, hv1⟩ := HVj.out.shape
        subst hvv
        have HV0 := Kp.mk hv0
        have HV1 := Kp.mk hv1
        obtain ⟨Q, hQ⟩ : ∃ Q, Q = M ++ news M (S.take j) := ⟨_, rfl⟩
        have hQl : Q.length ≤ 6000 := by
          have h2 : (news M (S.take j)).length ≤ m := by
            have := List.length_filter_le (fun y => decide (y ∉ M)) (S.take j)
            rw [List.length_take] at this
            unfold news
            omega
          rw [hQ, List.length_append, ← HMM.out]
          omega
        have HQ := Kp.mk hQ
        rw [← hQ] at HVj HFj HNj hcv HV0 ⊢
        obtain ⟨nQ, hnQ⟩ : ∃ nQ, nQ = Q.length := ⟨_, rfl⟩
        rw [← hnQ] at HVj HFj HNj hcv hQl ⊢
        have HNQ := Kp.mk hnQ
        clear hQ hnQ hv0 hv1
        by_cases hlt2 : j < m
        · have hjS : j < S.length := by rw [← HSM.out]; exact hlt2
          obtain ⟨gs, rfl⟩ : ∃ gs, AS = some ⟨gs, 0, none⟩ := by
            cases AS with
            | none => have h1 := (HS0.out rfl).1; rw [h1] at hjS; simp at hjS
            | some y => obtain ⟨gs, rfl⟩ := HS1.out y rfl; exact ⟨gs, rfl⟩
          obtain ⟨n, hq⟩ : ∃ n, n = S[j] := ⟨_, rfl⟩
          have hcq : wr.cell? ⟨gs, j, none⟩ = some (.int .i64 n) := by
            have h1 := HSj.out.elem j 0 hjS (by decide)
            rw [hq]; simpa [eI64] using h1
          have j0 : (0 : Int) ≤ (j : Int) := by omega
          have j1 : (j : Int) < (m : Int) := by omega
          have hnm := news_mem (M := M) HSN.out j hjS
          have hns := news_snoc M S j hjS
          rw [← hq, ← HQ.out] at hnm
          rw [← hq] at hns
          have HNM := Kp.mk hnm
          have HNS := Kp.mk hns
          clear hq hnm hns hjS
          obtain ⟨wi, rfl⟩ : ∃ wi : World, wi = wr := ⟨_, rfl⟩
          go_wp2_with fail
          go_loop [9, 11, 36] (fun bv _ zv => ∃ (z : Nat), z ≤ nQ ∧ zv = .int .i64 z ∧ bv = .bool (decide (n ∈ Q.take z))) (fun _ _ zv => nQ - (intOf zv).toNat)
          case atStart => exact ⟨0, Nat.zero_le _, rfl, by simp⟩
          case round =>
            obtain ⟨z, hz, rfl, rfl⟩ := hrel
            by_cases hlt3 : z < nQ
            · have hzQ : z < Q.length := by rw [← HNQ.out]; exact hlt3
              obtain ⟨g2, rfl⟩ : ∃ g, Av = some ⟨g, 0, none⟩ := by
                cases Av with
                | none => have h1 := (HV0.out rfl).1; rw [h1] at hzQ; simp at hzQ
                | some y => obtain ⟨g, rfl⟩ := HV1.out y rfl; exact ⟨g, rfl⟩
              obtain ⟨y, hy⟩ : ∃ y, y = Q[z] := ⟨_, rfl⟩
              have hcz : wi.cell? ⟨g2, z, none⟩ = some (.int .i64 y) := by
                have h1 := HVj.out.elem z 0 hzQ (by decide)
                rw [hy]; simpa [eI64] using h1
              have z0 : (0 : Int) ≤ (z : Int) := by omega
              have z1 : (z : Int) < (nQ : Int) := by omega
              have hst : decide (n ∈ Q.take (z + 1)) = (decide (n ∈ Q.take z) || y == n) := by
                rw [List.take_succ_eq_append_getElem hzQ, ← hy, Bool.eq_iff_iff]
                simp
                constructor
                · rintro (h | h); exact .inl h; exact .inr h.symm
                · rintro (h | h); exact .inl h; exact .inr h.symm
              obtain ⟨b, hb⟩ : ∃ b, b = decide (n ∈ Q.take z) := ⟨_, rfl⟩
              rw [← hb] at hst ⊢
              have HST := Kp.mk hst
              clear hy hst hb hzQ
              cases b
              · by_cases hzn : y = n
                · have hd : (y == n) = true := by simpa using hzn
                  go_wp2
                  go_round
                  case rel => exact ⟨z + 1, by omega, by go_num, by rw [HST.out, hd]; rfl⟩
                  case measure => simp [intOf]; omega
                · have hd : (y == n) = false := by simpa using hzn
                  go_wp2
                  go_round
                  case rel => exact ⟨z + 1, by omega, by go_num, by rw [HST.out, hd]; rfl⟩
                  case measure => simp [intOf]; omega
              · go_wp2
                go_round
                case rel => exact ⟨z + 1, by omega, by go_num, by rw [HST.out]; rfl⟩
                case measure => simp [intOf]; omega
            · obtain rfl : z = nQ := by omega
              have hall : Q.take z = Q := List.take_of_length_le (by rw [HNQ.out]; exact Nat.le_refl _)
              rw [hall]
              clear hall
              by_cases hmem : n ∈ Q
              · rw [decide_eq_true hmem]
                have HNS2 : Kp (M ++ news M (S.take (j + 1)) = Q) := ⟨by rw [HNS.out, if_pos (HNM.out.1 hmem)]; exact HQ.out.symm⟩
                clear hmem
                go_wp2_with fail
                go_roundw
                case rel => exact ⟨j + 1, by omega, by go_num, by rw [HNS2.out]; exact HVj, HFj, HSj, HNj, HBj⟩
                case measure => simp [intOf]; omega
              · rw [decide_eq_false hmem]
                have HNS2 : Kp (M ++ news M (S.take (j + 1)) = Q ++ [n]) := ⟨by rw [HNS.out, if_neg (fun h => hmem (HNM.out.2 h)), ← List.append_assoc, ← HQ.out]⟩
                clear hmem
                have hov := HVj.out
                go_wp2_with (at_builtin; refine app1_ev T50 n rfl _ _ rfl hov rfl rfl rfl (by simp) rfl (by rw [← HNQ.out]; omega) (by rw [← HNQ.out]; omega) ?_; intro A' n' c' w1 d0 d1 d2 d3; have D1 := Kp.mk d1; have D2 := Kp.mk d2; have D3 := Kp.mk d3; clear d0 d1 d2 d3)
                go_roundw
                case rel =>
                  refine ⟨j + 1, by omega, by go_num, ⟨?_⟩, ⟨?_⟩, ⟨?_⟩, ⟨?_⟩, ⟨?_⟩⟩
                  · rw [HNS2.out]; exact D1.out
                  · exact HFj.out.app HBj.out.size D3.out
                  · exact HSj.out.frame D2.out (fun g' hg' e => HNj.out g' hg' e)
                  · intro g' hg' e
                    rcases D3.out with h | ⟨g'', h, h2⟩
                    · exact HNj.out g' hg' (h ▸ e)
                    · rw [h] at e; cases e
                      have := HSj.out.lt hg'
                      omega
                  · exact chg_below HBj.out D2.out (fun g' hg' => HFj.out g' hg') HBj.out.size
                case measure => simp [intOf]; omega
        · obtain rfl : j = m := by omega
          have hall : S.take j = S := List.take_of_length_le (by rw [HSM.out]; exact Nat.le_refl _)
          have HQ2 : Kp (Q = M ++ news M S) := ⟨by rw [← hall]; exact HQ.out⟩
          have HBN := Kp.mk (hBx.out.step HSS.out)
          clear hall
          have i2 : (i : Int) + 1 ≤ 3000 := by omega
          go_wp2_with fail
          go_roundw
          case rel =>
            refine ⟨Q, i + 1, ?_, ?_, by go_num, ⟨?_⟩, HVj, HFj, HBj⟩
            · have := HMM.out; rw [HQ2.out, List.length_append]; omega
            · rw [HQ2.out]; exact HBN.out.len
            · have := HBN.out
              rw [← List.drop_append_of_le_length (by have := HMM.out; omega), ← HQ2.out] at this
              exact this
          case measure => simp [intOf]; have := HMM.out; omega
    · obtain rfl : i = mM := by omega
      have hd : M.drop i = [] := List.drop_eq_nil_of_le (by rw [hmM]; exact Nat.le_refl _)
      rw [hd] at HBf
      clear hd hmM
      go_wp2_with (go_at_call 58; refine (set_any _ A c M i HMM.out (HV.out.src rfl) (by omega)).mono ?_; rintro e w5 ⟨v5, S, rfl, h5, hf5, hb5, hS⟩; have H5 := Kp.mk h5; have HF5 := Kp.mk hf5; have HB5 := Kp.mk hb5; have HS5 := Kp.mk hS; clear h5 hf5 hb5 hS)
      go_ret
      refine ⟨_, S, rfl, H5.out, HF5.out.up HB.out.size, bstep HB.out HB.out.size HB5.out, ?_⟩
      rw [if_pos HPID.out]
      exact HS5.out.imp fun y => HBf.out.done y
end Go.Proofs.Ytlbbheopoflmjaa
