/- The document's Of and set of package links; bounds stand in each statement. -/
import Derived.Test.YtlbbheopoflmjaaRm
import Derived.Test.YtlbbheopoflmjaaGp
namespace Go.Proofs.Ytlbbheopoflmjaa
open Go.RowKit

theorem fil_snoc (f : Bd → Bool) (L : List Bd) (k : Nat) (h : k < L.length) : (L.take (k + 1)).filter f = if f L[k] = true then (L.take k).filter f ++ [L[k]] else (L.take k).filter f := by
  rw [List.take_succ_eq_append_getElem h, List.filter_append]
  by_cases h1 : f L[k] = true <;> simp [h1]
/-- The three cells of a bond that a row holds. -/
theorem Own.bd {w : World} {g n c : Nat} {L : List Bd} (h : Own w 48 eBd (.slice (some ⟨g, 0, none⟩) n c) L) (k : Nat) (hk : k < L.length) :
    w.cell? ⟨g, k * 3, none⟩ = some (.int .i64 L[k].a) ∧ w.cell? ⟨g, k * 3 + 1, none⟩ = some (.int .i64 L[k].b) ∧ w.cell? ⟨g, k * 3 + 2, none⟩ = some (.int .i64 L[k].r) := by
  refine ⟨?_, ?_, ?_⟩
  · have h1 := h.elem k 0 hk (by decide); simpa [eBd] using h1
  · have h1 := h.elem k 1 hk (by decide); simpa [eBd] using h1
  · have h1 := h.elem k 2 hk (by decide); simpa [eBd] using h1
set_option maxRecDepth 100000 in
set_option maxHeartbeats 4000000 in
theorem dof_any (w : World) (q : Nat) (lv : Value) (L : List Bd) (pid : Int) (h : IsD w q lv L) (hn : L.length ≤ 1000000) :
    Calls Try.prog 18 #[.pointer (some ⟨q, 0, none⟩), .int .i64 pid] w (CollPost w (L.filter (isOf pid))) := by
  obtain ⟨A, c, hv, _, _, hs0, hs1⟩ := h.own.shape
  subst hv
  have q0 := h.c0
  have qlt := lt_of_block h.blk
  have HO := Kp.mk h.own
  have HS0 := Kp.mk hs0
  have HS1 := Kp.mk hs1
  clear h hs0 hs1
  go_enter Try.func18, Try.ntmps18
  go_wp2_with fail
  go_loopw [5, 7, 13] (fun v _ iv wr => ∃ k : Nat, k ≤ L.length ∧ iv = .int .i64 k ∧ Kp (Own wr 48 eBd v ((L.take k).filter (isOf pid))) ∧ Kp (Fresh w v) ∧ Kp (Below w.heap.size w wr)) (fun _ _ iv _ => L.length - (intOf iv).toNat)
  case atStart => exact ⟨0, Nat.zero_le _, rfl, ⟨Own.nil _ _ _⟩, ⟨Fresh.nil _ _ _⟩, ⟨Below.refl _ _⟩⟩
  case round =>
    obtain ⟨k, hk, rfl, HV, HF, HB⟩ := hrel
    by_cases hlt : k < L.length
    · obtain ⟨g, rfl⟩ : ∃ g, A = some ⟨g, 0, none⟩ := by
        cases A with
        | none => have h1 := (HS0.out rfl).1; rw [h1] at hlt; simp at hlt
        | some y => obtain ⟨g, rfl⟩ := HS1.out y rfl; exact ⟨g, rfl⟩
      obtain ⟨a0, a1, a2⟩ := (HO.out.below HB.out).bd k hlt
      have hsn := fil_snoc (isOf pid) L k hlt
      obtain ⟨x, hx⟩ : ∃ x, x = L[k] := ⟨_, rfl⟩
      rw [← hx] at a0 a1 a2 hsn
      have k0 : (0 : Int) ≤ (k : Int) := by omega
      have k1 : (k : Int) < (L.length : Int) := by omega
      obtain ⟨A2, c2, hv2, _⟩ := HV.out.shape
      subst hv2
      obtain ⟨tl, htl⟩ : ∃ tl, tl = (L.take k).filter (isOf pid) := ⟨_, rfl⟩
      have htn : tl.length ≤ 1000000 := by
        have := List.length_filter_le (isOf pid) (L.take k)
        rw [← htl, List.length_take] at this
        omega
      rw [← htl] at HV HF hsn ⊢
      have hbw := HB.out.size
      have hov := HV.out.alloc (.cells #[.int .i64 x.a, .int .i64 x.b, .int .i64 x.r] 48)
      have HB3 : Kp (∀ o, Below w.heap.size w (wr.alloc o)) := ⟨fun o => HB.out.alloc hbw _⟩
      have hcA : (x.a == pid) = true ∨ (x.a == pid) = false := by by_cases e : x.a = pid <;> simp [e]
      have hcB : (x.b == pid) = true ∨ (x.b == pid) = false := by by_cases e : x.b = pid <;> simp [e]
      have HI : Kp (isOf pid x = (x.a == pid || x.b == pid)) := ⟨by unfold isOf; rw [Bool.eq_iff_iff]; simp⟩
      clear hx htl
      have yes : isOf pid x = true → Kp ((L.take (k + 1)).filter (isOf pid) = tl ++ [x]) := fun e => ⟨by rw [hsn, if_pos e]⟩
      have nay : isOf pid x = false → Kp ((L.take (k + 1)).filter (isOf pid) = tl) := fun e => ⟨by rw [hsn, if_neg (by rw [e]; decide)]⟩
      have YES := Kp.mk yes
      have NAY := Kp.mk nay
      clear hsn yes nay
      rcases hcA with hA | hA
      · have HE := YES.out (by rw [HI.out, hA]; rfl)
        go_wp2_with (at_builtin; refine app1_ev T27 x rfl _ _ rfl hov rfl rfl rfl (by simp) rfl (by omega) (by omega) ?_; intro A' n' c' w1 d0 d1 d2 d3; have D1 := Kp.mk d1; have D2 := Kp.mk d2; have D3 := Kp.mk d3; clear d0 d1 d2 d3)
        go_roundw
        case rel => exact ⟨k + 1, by omega, by go_num, ⟨by rw [HE.out]; exact D1.out⟩, ⟨HF.out.app (by simp; omega) D3.out⟩, ⟨chg_below (HB3.out _) D2.out (fun g' hg => HF.out g' hg) (by simp; omega)⟩⟩
        case measure => simp [intOf]; omega
      · rcases hcB with hBb | hBb
        · have HE := YES.out (by rw [HI.out, hA, hBb]; rfl)
          go_wp2_with (at_builtin; refine app1_ev T27 x rfl _ _ rfl hov rfl rfl rfl (by simp) rfl (by omega) (by omega) ?_; intro A' n' c' w1 d0 d1 d2 d3; have D1 := Kp.mk d1; have D2 := Kp.mk d2; have D3 := Kp.mk d3; clear d0 d1 d2 d3)
          go_roundw
          case rel => exact ⟨k + 1, by omega, by go_num, ⟨by rw [HE.out]; exact D1.out⟩, ⟨HF.out.app (by simp; omega) D3.out⟩, ⟨chg_below (HB3.out _) D2.out (fun g' hg => HF.out g' hg) (by simp; omega)⟩⟩
          case measure => simp [intOf]; omega
        · have HE := NAY.out (by rw [HI.out, hA, hBb]; rfl)
          go_wp2
          go_roundw
          case rel => exact ⟨k + 1, by omega, by go_num, ⟨by rw [HE.out]; exact hov⟩, HF, ⟨HB3.out _⟩⟩
          case measure => simp [intOf]; omega
    · obtain rfl : k = L.length := by omega
      have HV' := HV.out
      rw [List.take_length] at HV'
      have HVV := Kp.mk HV'
      clear HV'
      go_wp2
      go_ret
      exact ⟨_, rfl, HVV.out, HF.out, HB.out⟩
/-! ### set -/
theorem ins_set {S : List Int} {P : Int → Prop} {n : Int} (h : SetOf S P) (k : Nat) (hk : k ≤ S.length) (hn : n ∉ S) (hl : ∀ j (hj : j < S.length), k ≤ j → n < S[j]) (hr : ∀ j (hj : j < S.length), j < k → S[j] < n) :
    SetOf (S.take k ++ n :: S.drop k) (fun x => P x ∨ x = n) := by
  have e : S = S.take k ++ S.drop k := (List.take_append_drop k S).symm
  have hs := h.1
  rw [e] at hs
  obtain ⟨h1, h2, h3⟩ := List.pairwise_append.1 hs
  have lo : ∀ a ∈ S.take k, a < n := by
    intro a ha
    obtain ⟨j, hj, rfl⟩ := List.mem_iff_getElem.1 ha
    rw [List.length_take] at hj
    rw [List.getElem_take]
    exact hr j (by omega) (by omega)
  have hi : ∀ a ∈ S.drop k, n < a := by
    intro a ha
    obtain ⟨j, hj, rfl⟩ := List.mem_iff_getElem.1 ha
    rw [List.length_drop] at hj
    rw [List.getElem_drop]
    exact hl (k + j) (by omega) (by omega)
  refine ⟨?_, fun x => ?_⟩
  · refine List.pairwise_append.2 ⟨h1, List.pairwise_cons.2 ⟨hi, h2⟩, fun a ha b hb => ?_⟩
    rcases List.mem_cons.1 hb with rfl | hb
    · exact lo a ha
    · exact h3 a ha b hb
  · have := h.2 x
    rw [e] at this
    show _ ↔ (P x ∨ x = n)
    rw [← this]
    simp only [List.mem_append, List.mem_cons]
    constructor
    · rintro (h | h | h)
      · exact .inl (.inl h)
      · exact .inr h
      · exact .inl (.inr h)
    · rintro ((h | h) | h)
      · exact .inl h
      · exact .inr (.inr h)
      · exact .inr (.inl h)
theorem shift_set {S : List Int} {k : Nat} (hk : k < S.length) (y : Int) : (S.take (k + 1) ++ y :: S.drop (k + 1)).set (k + 1) S[k] = S.take k ++ S[k] :: S.drop k := by
  have hl : (S.take (k + 1)).length = k + 1 := by rw [List.length_take]; omega
  rw [List.set_append_right _ _ (by rw [hl]; exact Nat.le_refl _), hl, Nat.sub_self, List.set_cons_zero, List.take_succ_eq_append_getElem hk, List.append_assoc, List.drop_eq_getElem_cons hk]
  rfl
theorem put_set {S : List Int} {k : Nat} (hk : k ≤ S.length) (y n : Int) : (S.take k ++ y :: S.drop k).set k n = S.take k ++ n :: S.drop k := by
  have hl : (S.take k).length = k := by rw [List.length_take]; omega
  rw [List.set_append_right _ _ (by rw [hl]; exact Nat.le_refl _), hl, Nat.sub_self, List.set_cons_zero]
def SetPost (w : World) (l : List Int) (e : Ending) (w' : World) : Prop := ∃ v S, e = .returned v ∧ Own w' 2 eI64 v S ∧ Fresh w v ∧ Below w.heap.size w w' ∧ SetOf S (· ∈ l)
set_option maxRecDepth 100000 in
set_option maxHeartbeats 8000000 in
theorem set_any (w : World) (A : Option Addr) (c : Nat) (l : List Int) (N : Nat) (hN : N = l.length) (hs : Src w eI64 A c l) (hn : N ≤ 1000000) :
    Calls Try.prog 58 #[.slice A N c] w (SetPost w l) := by
  have HSrc := Kp.mk hs
  have HN := Kp.mk hN
  clear hs hN
  go_enter Try.func58, Try.ntmps58
  go_wp2_with fail
  go_loopw [3, 5, 6, 8, 9, 12] (fun v _ _ _ _ iv wr => ∃ (k : Nat) (S : List Int), k ≤ N ∧ iv = .int .i64 k ∧ Kp (SetOf S (· ∈ l.take k)) ∧ Kp (S.length ≤ k) ∧ Kp (Own wr 2 eI64 v S) ∧ Kp (Fresh w v) ∧ Kp (Below w.heap.size w wr)) (fun _ _ _ _ _ iv _ => N - (intOf iv).toNat)
  case atStart => exact ⟨0, [], Nat.zero_le _, rfl, ⟨⟨List.Pairwise.nil, fun x => by simp⟩⟩, ⟨by simp⟩, ⟨Own.nil _ _ _⟩, ⟨Fresh.nil _ _ _⟩, ⟨Below.refl _ _⟩⟩
  case round =>
    obtain ⟨k, S, hk, rfl, HSS, HSl, HV, HF, HB⟩ := hrel
    by_cases hlt : k < N
    · have hkl : k < l.length := by rw [← HN.out]; exact hlt
      obtain ⟨ad, rfl⟩ : ∃ ad, A = some ad := by
        cases A with
        | none => have h1 := (HSrc.out.none rfl).1; rw [h1] at hkl; simp at hkl
        | some y => exact ⟨y, rfl⟩
      obtain ⟨g, o, rfl⟩ := HSrc.out.addr (by omega)
      obtain ⟨n, hnn⟩ : ∃ n, n = l[k] := ⟨_, rfl⟩
      have hcell : wr.cell? ⟨g, o + k, none⟩ = some (.int .i64 n) := by
        have h1 := (HSrc.out.below HB.out).elem k 0 hkl (by decide)
        rw [hnn]; simpa [eI64] using h1
      have htk : Kp (l.take (k + 1) = l.take k ++ [n]) := ⟨by rw [List.take_succ_eq_append_getElem hkl, hnn]⟩
      have k0 : (0 : Int) ≤ (k : Int) := by omega
      have k1 : (k : Int) < (N : Int) := by omega
      obtain ⟨A2, c2, hv2, hc2, hm2, hs0, hs1⟩ := HV.out.shape
      subst hv2
      have HS0 := Kp.mk hs0
      have HS1 := Kp.mk hs1
      have hSl : S.length ≤ 1000000 := by have := HSl.out; omega
      obtain ⟨m, hm⟩ : ∃ m, m = S.length := ⟨_, rfl⟩
      have HM := Kp.mk hm
      rw [← hm] at hSl hc2 HV HF ⊢
      clear hnn hs0 hs1 hm hkl
      obtain ⟨wo, rfl⟩ : ∃ wo : World, wo = wr := ⟨_, rfl⟩
      go_wp2_with fail
      go_loop [6, 8, 18] (fun bv _ jv => ∃ (j : Nat), j ≤ m ∧ jv = .int .i64 j ∧ bv = .bool (decide (n ∈ S.take j))) (fun _ _ jv => m - (intOf jv).toNat)
      case atStart => exact ⟨0, Nat.zero_le _, rfl, by simp⟩
      case round =>
        obtain ⟨j, hj, rfl, rfl⟩ := hrel
        by_cases hlt2 : j < m
        · have hjS : j < S.length := by rw [← HM.out]; exact hlt2
          obtain ⟨g2, rfl⟩ : ∃ g, A2 = some ⟨g, 0, none⟩ := by
            cases A2 with
            | none => have h1 := (HS0.out rfl).1; rw [h1] at hjS; simp at hjS
            | some y => obtain ⟨g, rfl⟩ := HS1.out y rfl; exact ⟨g, rfl⟩
          obtain ⟨z, hz⟩ : ∃ z, z = S[j] := ⟨_, rfl⟩
          have hcz : wo.cell? ⟨g2, j, none⟩ = some (.int .i64 z) := by
            have h1 := HV.out.elem j 0 hjS (by decide)
            rw [hz]; simpa [eI64] using h1
          have j0 : (0 : Int) ≤ (j : Int) := by omega
          have j1 : (j : Int) < (m : Int) := by omega
          have hst : decide (n ∈ S.take (j + 1)) = (decide (n ∈ S.take j) || z == n) := by
            rw [List.take_succ_eq_append_getElem hjS, ← hz, Bool.eq_iff_iff]
            simp
            constructor
            · rintro (h | h); exact .inl h; exact .inr h.symm
            · rintro (h | h); exact .inl h; exact .inr h.symm
          obtain ⟨b, hb⟩ : ∃ b, b = decide (n ∈ S.take j) := ⟨_, rfl⟩
          rw [← hb] at hst ⊢
          have HST := Kp.mk hst
          clear hz hst hb
          cases b
          · by_cases hzn : z = n
            · have hd : (z == n) = true := by simpa using hzn
              go_wp2
              go_round
              case rel => exact ⟨j + 1, by omega, by go_num, by rw [HST.out, hd]; rfl⟩
              case measure => simp [intOf]; omega
            · have hd : (z == n) = false := by simpa using hzn
              go_wp2
              go_round
              case rel => exact ⟨j + 1, by omega, by go_num, by rw [HST.out, hd]; rfl⟩
              case measure => simp [intOf]; omega
          · go_wp2
            go_round
            case rel => exact ⟨j + 1, by omega, by go_num, by rw [HST.out]; rfl⟩
            case measure => simp [intOf]; omega
        · obtain rfl : j = m := by omega
          have hall : S.take j = S := List.take_of_length_le (by rw [HM.out]; exact Nat.le_refl _)
          rw [hall]
          clear hall
          by_cases hmem : n ∈ S
          · rw [decide_eq_true hmem]
            have HME := Kp.mk hmem
            clear hmem
            go_wp2_with fail
            go_roundw
            case rel =>
              refine ⟨k + 1, S, by omega, by go_num, ⟨HSS.out.imp fun x => ?_⟩, ⟨by have := HSl.out; omega⟩, HV, HF, HB⟩
              rw [htk.out]
              simp only [List.mem_append, List.mem_singleton]
              exact ⟨.inl, fun h => h.elim id (fun h => by rw [h]; exact (HSS.out.2 n).1 HME.out)⟩
            case measure => simp [intOf]; omega
          · rw [decide_eq_false hmem]
            have HME := Kp.mk hmem
            clear hmem
            have hov := HV.out
            go_wp2_with (at_builtin; refine app1_ev T50 n rfl _ _ rfl hov rfl rfl rfl (by simp) rfl (by rw [← HM.out]; omega) (by rw [← HM.out]; omega) ?_; intro A' n' c' w1 d0 d1 d2 d3; have D0 := d0; have D1 := Kp.mk d1; have D2 := Kp.mk d2; have D3 := Kp.mk d3; clear d0 d1 d2 d3)
            obtain rfl : n' = j + 1 := by have := D0.out; rw [← HM.out] at this; exact this
            obtain ⟨g3, rfl⟩ : ∃ g, A' = some ⟨g, 0, none⟩ := by
              obtain ⟨A9, c9, hv9, _, _, h0, h1⟩ := D1.out.shape
              injection hv9 with e1 _ _
              subst e1
              cases A' with
              | none => have := (h0 rfl).1; simp at this
              | some y => obtain ⟨g, rfl⟩ := h1 y rfl; exact ⟨g, rfl⟩
            have HF1 : Kp (Fresh w (.slice (some ⟨g3, 0, none⟩) (j + 1) c')) := ⟨HF.out.app HB.out.size D3.out⟩
            have HB1 : Kp (Below w.heap.size w w1) := ⟨chg_below HB.out D2.out (fun g' hg => HF.out g' hg) HB.out.size⟩
            have hg3 : w.heap.size ≤ g3 := HF1.out g3 rfl
            clear D0 hov
            go_loopw [9] (fun kv wi => ∃ (i : Nat) (y : Int), i ≤ j ∧ kv = .int .i64 i ∧ Kp (Own wi 2 eI64 (.slice (some ⟨g3, 0, none⟩) (j + 1) c') (S.take i ++ y :: S.drop i)) ∧ Kp (∀ z (hz : z < S.length), i ≤ z → n < S[z]) ∧ Kp (Below w.heap.size w wi)) (fun kv _ => (intOf kv).toNat)
            case atStart => exact ⟨j, n, Nat.le_refl _, rfl, ⟨by rw [List.take_of_length_le (by rw [HM.out]; exact Nat.le_refl _), List.drop_eq_nil_of_le (by rw [HM.out]; exact Nat.le_refl _)]; exact D1.out⟩, ⟨fun z hz h => by have := HM.out; omega⟩, HB1⟩
            case round =>
              obtain ⟨i, y, hi, rfl, HR, HGt, HBi⟩ := hrel
              have hRl : (S.take i ++ y :: S.drop i).length = j + 1 := by have := HM.out; simp; omega
              have hRs : i < (S.take i ++ y :: S.drop i).length := by omega
              have hfz := HR.out.frozen i
              have hcy : wr.cell? ⟨g3, i, none⟩ = some (.int .i64 ((S.take i ++ y :: S.drop i)[i])) := by
                have h1 := HR.out.elem i 0 hRs (by decide); simpa [eI64] using h1
              obtain ⟨yy, hyy⟩ : ∃ yy, yy = (S.take i ++ y :: S.drop i)[i] := ⟨_, rfl⟩
              rw [← hyy] at hcy
              have hglt : g3 < wr.heap.size := HR.out.lt rfl
              have HRL := Kp.mk hRl
              clear hyy hRl hRs
              by_cases hi0 : 0 < i
              · obtain ⟨i', rfl⟩ : ∃ i', i = i' + 1 := ⟨i - 1, by omega⟩
                have hiS : i' < S.length := by have := HM.out; omega
                obtain ⟨z, hz⟩ : ∃ z, z = S[i'] := ⟨_, rfl⟩
                have hcz : wr.cell? ⟨g3, i', none⟩ = some (.int .i64 z) := by
                  have h1 := HR.out.elem i' 0 (by rw [HRL.out]; omega) (by decide)
                  have h2 : (S.take (i' + 1) ++ y :: S.drop (i' + 1))[i']'(by rw [HRL.out]; omega) = z := by
                    rw [hz, List.getElem_append_left (by rw [List.length_take]; have := HM.out; omega), List.getElem_take]
                  rw [h2] at h1
                  simpa [eI64] using h1
                have i1 : (0 : Int) ≤ (i' : Int) := by omega
                have i2 : (i' : Int) < (j : Int) + 1 := by omega
                have i3 : (i' : Int) + 1 < (j : Int) + 1 := by omega
                have HZ := Kp.mk hz
                clear hz hi0
                by_cases hzn : n < z
                · have hzd : decide (z > n) = true := by simpa using hzn
                  go_wp2_with fail
                  go_roundw
                  case rel =>
                    refine ⟨i', z, by omega, by first | rfl | (simp; omega), ⟨?_⟩, ⟨fun x hx h => ?_⟩, ⟨chg_below HBi.out (chg_cell _ g3 (i' + 1) (.int .i64 z)) (fun g' hg => by omega) HBi.out.size⟩⟩
                    · have h1 := HR.out.set HRL.out.symm (i' + 1) 0 z (.int .i64 z) (by rw [HRL.out]; omega) (by decide) rfl
                      rw [HZ.out, shift_set hiS] at h1
                      have e : (i' + 1) * eI64.k + 0 = i' + 1 := Nat.mul_one _
                      rw [e] at h1
                      rw [HZ.out]
                      exact h1
                    · by_cases hxi : x = i'
                      · subst hxi; rw [← HZ.out]; exact hzn
                      · exact HGt.out x hx (by omega)
                  case measure => simp [intOf]
                · have hzd : decide (z > n) = false := by simp; omega
                  go_wp2_with fail
                  go_roundw
                  case rel =>
                    refine ⟨k + 1, S.take (i' + 1) ++ n :: S.drop (i' + 1), by omega, by go_num, ⟨?_⟩, ⟨?_⟩, ⟨?_⟩, HF1, ⟨chg_below HBi.out (chg_cell _ g3 (i' + 1) (.int .i64 n)) (fun g' hg => by omega) HBi.out.size⟩⟩
                    · refine (ins_set HSS.out (i' + 1) (by have := HM.out; omega) HME.out (fun z hz h => HGt.out z hz h) (fun x hx h => by have h2 := List.pairwise_iff_getElem.1 HSS.out.1; have h3 : S[i'] < n := (by have h4 : S[i'] ≠ n := fun e => HME.out (e ▸ List.getElem_mem hiS); have h5 := HZ.out; omega); by_cases hxi : x = i'; subst hxi; exact h3; have h6 := h2 x i' hx hiS (by omega); omega)).imp fun x => ?_
                      rw [htk.out]
                      simp only [List.mem_append, List.mem_singleton]
                    · have h1 := HSl.out; have h2 := HM.out; simp; omega
                    · have h1 := HR.out.set HRL.out.symm (i' + 1) 0 n (.int .i64 n) (by rw [HRL.out]; omega) (by decide) rfl
                      rw [put_set (by have := HM.out; omega)] at h1
                      have e : (i' + 1) * eI64.k + 0 = i' + 1 := Nat.mul_one _
                      rw [e] at h1
                      exact h1
                  case measure => simp [intOf]; omega
              · obtain rfl : i = 0 := by omega
                go_wp2_with fail
                go_roundw
                case rel =>
                  refine ⟨k + 1, S.take 0 ++ n :: S.drop 0, by omega, by go_num, ⟨?_⟩, ⟨?_⟩, ⟨?_⟩, HF1, ⟨chg_below HBi.out (chg_cell _ g3 (0) (.int .i64 n)) (fun g' hg => by omega) HBi.out.size⟩⟩
                  · refine (ins_set HSS.out (0) (by have := HM.out; omega) HME.out (fun z hz h => HGt.out z hz h) (fun x hx h => by omega)).imp fun x => ?_
                    rw [htk.out]
                    simp only [List.mem_append, List.mem_singleton]
                  · have h1 := HSl.out; have h2 := HM.out; simp; omega
                  · have h1 := HR.out.set HRL.out.symm (0) 0 n (.int .i64 n) (by rw [HRL.out]; omega) (by decide) rfl
                    rw [put_set (by have := HM.out; omega)] at h1
                    have e : (0) * eI64.k + 0 = 0 := Nat.mul_one _
                    rw [e] at h1
                    exact h1
                case measure => simp [intOf]; omega
    · obtain rfl : k = N := by omega
      have hall : l.take k = l := List.take_of_length_le (by rw [HN.out]; exact Nat.le_refl _)
      have HSS' := HSS.out
      rw [hall] at HSS'
      have HSV := Kp.mk HSS'
      clear HSS' hall
      go_wp2
      go_ret
      exact ⟨_, S, rfl, HV.out, HF.out, HB.out, HSV.out⟩
end Go.Proofs.Ytlbbheopoflmjaa
