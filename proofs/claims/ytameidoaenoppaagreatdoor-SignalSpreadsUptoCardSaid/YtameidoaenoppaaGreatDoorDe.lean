/- The document's End of package links walked; bounds stand in each statement. -/
import Derived.Test.YtameidoaenoppaaGreatDoorLPc
namespace Go.Proofs.YtameidoaenoppaaGreatDoor
open Go.RowKit

theorem fil_snocL (f : Bd → Bool) (L : List Bd) (k : Nat) (h : k < L.length) : (L.take (k + 1)).filter f = if f L[k] = true then (L.take k).filter f ++ [L[k]] else (L.take k).filter f := by
  rw [List.take_succ_eq_append_getElem h, List.filter_append]
  by_cases h1 : f L[k] = true <;> simp [h1]
/-- The three cells of a bond that a row holds. -/
theorem Own.bd {w : World} {g n c : Nat} {L : List Bd} (h : Own w 71 eBd (.slice (some ⟨g, 0, none⟩) n c) L) (k : Nat) (hk : k < L.length) :
    w.cell? ⟨g, k * 3, none⟩ = some (.int .i64 L[k].a) ∧ w.cell? ⟨g, k * 3 + 1, none⟩ = some (.int .i64 L[k].b) ∧ w.cell? ⟨g, k * 3 + 2, none⟩ = some (.int .i64 L[k].r) := by
  refine ⟨?_, ?_, ?_⟩
  · have h1 := h.elem k 0 hk (by decide); simpa [eBd] using h1
  · have h1 := h.elem k 1 hk (by decide); simpa [eBd] using h1
  · have h1 := h.elem k 2 hk (by decide); simpa [eBd] using h1
theorem told_snocL (pid : Int) (L : List Bd) (k : Nat) (hk : k < L.length) : told pid (L.take (k + 1)) = if (isOf pid L[k] && tells pid L[k]) = true then told pid (L.take k) ++ [L[k]] else told pid (L.take k) := fil_snocL _ L k hk
theorem left_snoc (pid : Int) (L : List Bd) (k : Nat) (hk : k < L.length) : leftL pid (L.take (k + 1)) = if isOf pid L[k] = true then leftL pid (L.take k) else leftL pid (L.take k) ++ [L[k]] := by
  unfold leftL
  rw [fil_snocL _ L k hk]
  cases isOf pid L[k] <;> rfl
theorem left_len (pid : Int) (L : List Bd) : (leftL pid L).length ≤ L.length := List.length_filter_le _ _
def DEndPost (w : World) (q : Nat) (lv : Value) (L : List Bd) (pid : Int) (e : Ending) (w' : World) : Prop :=
  ∃ v, e = .returned (.tuple #[v, .int .i64 0]) ∧ Own w' 71 eBd v (told pid L) ∧ Fresh w v ∧ DStep w q lv (leftL pid L) w'
set_option maxHeartbeats 1000000 in
theorem dend_bad (w : World) (q : Nat) (pid : Int) (h : decide (IsPid pid) = false) : Calls Tryz.prog 32 #[.pointer (some ⟨q, 0, none⟩), .int .i64 pid] w fun e w' => e = .returned (.tuple #[.slice none 0 0, .int .i64 1]) ∧ w = w' := by
  go_enter Tryz.func32, Tryz.ntmps32
  go_wp2_with (go_at_call 46; refine (dPid_any _ pid).mono ?_; rintro e w' ⟨rfl, rfl⟩; rw [h])
  go_ret2
  exact ⟨rfl, rfl⟩
set_option maxRecDepth 100000 in
set_option maxHeartbeats 8000000 in
theorem dend_any (w : World) (q : Nat) (lv : Value) (L : List Bd) (pid : Int) (h : IsD w q lv L) (hn : L.length ≤ 1000000) (hp : decide (IsPid pid) = true) :
    Calls Tryz.prog 32 #[.pointer (some ⟨q, 0, none⟩), .int .i64 pid] w (DEndPost w q lv L pid) := by
  obtain ⟨A, c, hv, _, _, hs0, hs1⟩ := h.own.shape
  subst hv
  have q0 := h.c0
  have qlt := lt_of_block h.blk
  have HD := Kp.mk h
  have HS0 := Kp.mk hs0
  have HS1 := Kp.mk hs1
  clear h hs0 hs1
  go_enter Tryz.func32, Tryz.ntmps32
  go_wp2_with (go_at_call 46; refine (dPid_any _ pid).mono ?_; rintro e w' ⟨rfl, rfl⟩; rw [hp])
  go_loopw [6, 7, 9, 18] (fun v u _ iv wr => ∃ k : Nat, k ≤ L.length ∧ iv = .int .i64 k ∧ Kp (Own wr 71 eBd v (told pid (L.take k))) ∧ Kp (Own wr 71 eBd u (leftL pid (L.take k))) ∧ Kp (Fresh w v) ∧ Kp (Fresh w u) ∧ Kp (∀ g, v.ownBlock = some g → u.ownBlock ≠ some g) ∧ Kp (Below w.heap.size w wr)) (fun _ _ _ iv _ => L.length - (intOf iv).toNat)
  case atStart => exact ⟨0, Nat.zero_le _, rfl, ⟨Own.nil _ _ _⟩, ⟨Own.nil _ _ _⟩, ⟨Fresh.nil _ _ _⟩, ⟨Fresh.nil _ _ _⟩, ⟨fun g h => by cases h⟩, ⟨Below.refl _ _⟩⟩
  case round =>
    obtain ⟨k, hk, rfl, HV, HU, HFv, HFu, HN, HB⟩ := hrel
    by_cases hlt : k < L.length
    · obtain ⟨g, rfl⟩ : ∃ g, A = some ⟨g, 0, none⟩ := by
        cases A with
        | none => have h1 := (HS0.out rfl).1; rw [h1] at hlt; simp at hlt
        | some y => obtain ⟨g, rfl⟩ := HS1.out y rfl; exact ⟨g, rfl⟩
      obtain ⟨a0, a1, a2⟩ := (HD.out.own.below HB.out).bd k hlt
      have hts := told_snocL pid L k hlt
      have hls := left_snoc pid L k hlt
      obtain ⟨x, hx⟩ : ∃ x, x = L[k] := ⟨_, rfl⟩
      rw [← hx] at a0 a1 a2 hts hls
      have k0 : (0 : Int) ≤ (k : Int) := by omega
      have k1 : (k : Int) < (L.length : Int) := by omega
      obtain ⟨A2, c2, hv2, _⟩ := HV.out.shape
      subst hv2
      obtain ⟨A3, c3, hv3, _⟩ := HU.out.shape
      subst hv3
      obtain ⟨tl, htl⟩ : ∃ tl, tl = told pid (L.take k) := ⟨_, rfl⟩
      obtain ⟨ul, hul⟩ : ∃ ul, ul = leftL pid (L.take k) := ⟨_, rfl⟩
      have htn : tl.length ≤ 1000000 := by
        have := told_len pid (L.take k)
        rw [← htl, List.length_take] at this
        omega
      have hun : ul.length ≤ 1000000 := by
        have := left_len pid (L.take k)
        rw [← hul, List.length_take] at this
        omega
      rw [← htl] at HV HFv HN hts ⊢
      rw [← hul] at HU HFu HN hls ⊢
      have hbw := HB.out.size
      have hov := HV.out.alloc (.cells #[.int .i64 x.a, .int .i64 x.b, .int .i64 x.r] 71)
      have hou := HU.out.alloc (.cells #[.int .i64 x.a, .int .i64 x.b, .int .i64 x.r] 71)
      have HOV := Kp.mk hov
      have HOU := Kp.mk hou
      have HB3 : Kp (∀ o, Below w.heap.size w (wr.alloc o)) := ⟨fun o => HB.out.alloc hbw _⟩
      have hcA : (x.a == pid) = true ∧ (x.a != pid) = false ∨ (x.a == pid) = false ∧ (x.a != pid) = true := by by_cases e : x.a = pid <;> simp [e]
      have hcB : (x.b == pid) = true ∧ (x.b != pid) = false ∨ (x.b == pid) = false ∧ (x.b != pid) = true := by by_cases e : x.b = pid <;> simp [e]
      have hcR : (x.r == 0) = true ∨ (x.r == 0) = false := by by_cases e : x.r = 0 <;> simp [e]
      have hbAll : Kp ((isOf pid x = (x.a == pid || x.b == pid)) ∧ tells pid x = (x.r == 0 || (x.b == pid && (x.a != pid)))) := ⟨by
        unfold isOf tells
        constructor <;> (rw [Bool.eq_iff_iff]; simp)⟩
      have HTS := Kp.mk hts
      have HLS := Kp.mk hls
      clear hx htl hul hts hls
      rcases hcA with ⟨e1, e2⟩ | ⟨e1, e2⟩
      · rcases hcB with ⟨b1, b2⟩ | ⟨b1, b2⟩
        · rcases hcR with r1 | r1
          · have hi : isOf pid x = true := by rw [hbAll.out.1, e1, b1]; rfl
            have hte : tells pid x = true := by rw [hbAll.out.2, r1, b1, e2]; rfl
            have HT : Kp (told pid (L.take (k + 1)) = tl ++ [x] ∧ leftL pid (L.take (k + 1)) = ul) := ⟨by rw [HTS.out, HLS.out, hi, hte]; exact ⟨rfl, rfl⟩⟩
            clear hi hte
            go_wp2_with (at_builtin; refine app1_ev T27 x rfl _ _ rfl hov rfl rfl rfl (by simp) rfl (by omega) (by omega) ?_; intro A' n' c' w6 d0 d1 d2 d3; have D1 := Kp.mk d1; have D2 := Kp.mk d2; have D3 := Kp.mk d3; clear d0 d1 d2 d3)
            go_roundw
            case rel =>
              refine ⟨k + 1, by omega, by go_num, ⟨?_⟩, ⟨?_⟩, ⟨?_⟩, HFu, ⟨?_⟩, ⟨?_⟩⟩
              · rw [HT.out.1]; exact D1.out
              · rw [HT.out.2]; exact HOU.out.frame D2.out (fun g' hg hF => HN.out g' hF hg)
              · exact HFv.out.app (by simp; omega) D3.out
              · intro g' hg hF
                rcases D3.out with h | ⟨g2, h, h2⟩
                · exact HN.out g' (h ▸ hg) hF
                · rw [h] at hg; cases hg
                  have := HOU.out.lt hF
                  omega
              · exact chg_below (HB3.out _) D2.out (fun g' hg => HFv.out g' hg) (by simp; omega)
            case measure => simp [intOf]; omega
          · have hi : isOf pid x = true := by rw [hbAll.out.1, e1, b1]; rfl
            have hte : tells pid x = false := by rw [hbAll.out.2, r1, b1, e2]; rfl
            have HT : Kp (told pid (L.take (k + 1)) = tl ∧ leftL pid (L.take (k + 1)) = ul) := ⟨by rw [HTS.out, HLS.out, hi, hte]; exact ⟨rfl, rfl⟩⟩
            clear hi hte
            go_wp2
            go_roundw
            case rel => exact ⟨k + 1, by omega, by go_num, ⟨by rw [HT.out.1]; exact HOV.out⟩, ⟨by rw [HT.out.2]; exact HOU.out⟩, HFv, HFu, HN, ⟨HB3.out _⟩⟩
            case measure => simp [intOf]; omega
        · rcases hcR with r1 | r1
          · have hi : isOf pid x = true := by rw [hbAll.out.1, e1, b1]; rfl
            have hte : tells pid x = true := by rw [hbAll.out.2, r1, b1, e2]; rfl
            have HT : Kp (told pid (L.take (k + 1)) = tl ++ [x] ∧ leftL pid (L.take (k + 1)) = ul) := ⟨by rw [HTS.out, HLS.out, hi, hte]; exact ⟨rfl, rfl⟩⟩
            clear hi hte
            go_wp2_with (at_builtin; refine app1_ev T27 x rfl _ _ rfl hov rfl rfl rfl (by simp) rfl (by omega) (by omega) ?_; intro A' n' c' w6 d0 d1 d2 d3; have D1 := Kp.mk d1; have D2 := Kp.mk d2; have D3 := Kp.mk d3; clear d0 d1 d2 d3)
            go_roundw
            case rel =>
              refine ⟨k + 1, by omega, by go_num, ⟨?_⟩, ⟨?_⟩, ⟨?_⟩, HFu, ⟨?_⟩, ⟨?_⟩⟩
              · rw [HT.out.1]; exact D1.out
              · rw [HT.out.2]; exact HOU.out.frame D2.out (fun g' hg hF => HN.out g' hF hg)
              · exact HFv.out.app (by simp; omega) D3.out
              · intro g' hg hF
                rcases D3.out with h | ⟨g2, h, h2⟩
                · exact HN.out g' (h ▸ hg) hF
                · rw [h] at hg; cases hg
                  have := HOU.out.lt hF
                  omega
              · exact chg_below (HB3.out _) D2.out (fun g' hg => HFv.out g' hg) (by simp; omega)
            case measure => simp [intOf]; omega
          · have hi : isOf pid x = true := by rw [hbAll.out.1, e1, b1]; rfl
            have hte : tells pid x = false := by rw [hbAll.out.2, r1, b1, e2]; rfl
            have HT : Kp (told pid (L.take (k + 1)) = tl ∧ leftL pid (L.take (k + 1)) = ul) := ⟨by rw [HTS.out, HLS.out, hi, hte]; exact ⟨rfl, rfl⟩⟩
            clear hi hte
            go_wp2
            go_roundw
            case rel => exact ⟨k + 1, by omega, by go_num, ⟨by rw [HT.out.1]; exact HOV.out⟩, ⟨by rw [HT.out.2]; exact HOU.out⟩, HFv, HFu, HN, ⟨HB3.out _⟩⟩
            case measure => simp [intOf]; omega
      · rcases hcB with ⟨b1, b2⟩ | ⟨b1, b2⟩
        · rcases hcR with r1 | r1
          · have hi : isOf pid x = true := by rw [hbAll.out.1, e1, b1]; rfl
            have hte : tells pid x = true := by rw [hbAll.out.2, r1, b1, e2]; rfl
            have HT : Kp (told pid (L.take (k + 1)) = tl ++ [x] ∧ leftL pid (L.take (k + 1)) = ul) := ⟨by rw [HTS.out, HLS.out, hi, hte]; exact ⟨rfl, rfl⟩⟩
            clear hi hte
            go_wp2_with (at_builtin; refine app1_ev T27 x rfl _ _ rfl hov rfl rfl rfl (by simp) rfl (by omega) (by omega) ?_; intro A' n' c' w6 d0 d1 d2 d3; have D1 := Kp.mk d1; have D2 := Kp.mk d2; have D3 := Kp.mk d3; clear d0 d1 d2 d3)
            go_roundw
            case rel =>
              refine ⟨k + 1, by omega, by go_num, ⟨?_⟩, ⟨?_⟩, ⟨?_⟩, HFu, ⟨?_⟩, ⟨?_⟩⟩
              · rw [HT.out.1]; exact D1.out
              · rw [HT.out.2]; exact HOU.out.frame D2.out (fun g' hg hF => HN.out g' hF hg)
              · exact HFv.out.app (by simp; omega) D3.out
              · intro g' hg hF
                rcases D3.out with h | ⟨g2, h, h2⟩
                · exact HN.out g' (h ▸ hg) hF
                · rw [h] at hg; cases hg
                  have := HOU.out.lt hF
                  omega
              · exact chg_below (HB3.out _) D2.out (fun g' hg => HFv.out g' hg) (by simp; omega)
            case measure => simp [intOf]; omega
          · have hi : isOf pid x = true := by rw [hbAll.out.1, e1, b1]; rfl
            have hte : tells pid x = true := by rw [hbAll.out.2, r1, b1, e2]; rfl
            have HT : Kp (told pid (L.take (k + 1)) = tl ++ [x] ∧ leftL pid (L.take (k + 1)) = ul) := ⟨by rw [HTS.out, HLS.out, hi, hte]; exact ⟨rfl, rfl⟩⟩
            clear hi hte
            go_wp2_with (at_builtin; refine app1_ev T27 x rfl _ _ rfl hov rfl rfl rfl (by simp) rfl (by omega) (by omega) ?_; intro A' n' c' w6 d0 d1 d2 d3; have D1 := Kp.mk d1; have D2 := Kp.mk d2; have D3 := Kp.mk d3; clear d0 d1 d2 d3)
            go_roundw
            case rel =>
              refine ⟨k + 1, by omega, by go_num, ⟨?_⟩, ⟨?_⟩, ⟨?_⟩, HFu, ⟨?_⟩, ⟨?_⟩⟩
              · rw [HT.out.1]; exact D1.out
              · rw [HT.out.2]; exact HOU.out.frame D2.out (fun g' hg hF => HN.out g' hF hg)
              · exact HFv.out.app (by simp; omega) D3.out
              · intro g' hg hF
                rcases D3.out with h | ⟨g2, h, h2⟩
                · exact HN.out g' (h ▸ hg) hF
                · rw [h] at hg; cases hg
                  have := HOU.out.lt hF
                  omega
              · exact chg_below (HB3.out _) D2.out (fun g' hg => HFv.out g' hg) (by simp; omega)
            case measure => simp [intOf]; omega
        · have hi : isOf pid x = false := by rw [hbAll.out.1, e1, b1]; rfl
          have HT : Kp (told pid (L.take (k + 1)) = tl ∧ leftL pid (L.take (k + 1)) = ul ++ [x]) := ⟨by rw [HTS.out, HLS.out, hi]; exact ⟨rfl, rfl⟩⟩
          clear hi
          go_wp2_with (at_builtin; refine app1_ev T27 x rfl _ _ rfl hou rfl rfl rfl (by simp) rfl (by omega) (by omega) ?_; intro A' n' c' w6 d0 d1 d2 d3; have D1 := Kp.mk d1; have D2 := Kp.mk d2; have D3 := Kp.mk d3; clear d0 d1 d2 d3)
          go_roundw
          case rel =>
            refine ⟨k + 1, by omega, by go_num, ⟨?_⟩, ⟨?_⟩, HFv, ⟨?_⟩, ⟨?_⟩, ⟨?_⟩⟩
            · rw [HT.out.1]; exact HOV.out.frame D2.out (fun g' hg hF => HN.out g' hg hF)
            · rw [HT.out.2]; exact D1.out
            · exact HFu.out.app (by simp; omega) D3.out
            · intro g' hg hF
              rcases D3.out with h | ⟨g2, h, h2⟩
              · exact HN.out g' hg (h ▸ hF)
              · rw [h] at hF; cases hF
                have := HOV.out.lt hg
                omega
            · exact chg_below (HB3.out _) D2.out (fun g' hg => HFu.out g' hg) (by simp; omega)
          case measure => simp [intOf]; omega
    · obtain rfl : k = L.length := by omega
      obtain ⟨A2, c2, hv2, _⟩ := HV.out.shape
      subst hv2
      obtain ⟨A3, c3, hv3, _⟩ := HU.out.shape
      subst hv3
      rw [List.take_length] at HFv HFu ⊢
      have HV' := HV.out
      have HU' := HU.out
      rw [List.take_length] at HV' HU'
      have HVV := Kp.mk HV'
      have HUU := Kp.mk HU'
      have H2 := Kp.mk (HD.out.below HB.out)
      have q2 := H2.out.c0
      have z2 := blk_f H2.out.blk 0
      have l2 := H2.out.lt
      clear HV' HU'
      go_wp2
      go_ret2
      have hne : (Value.slice A3 (leftL pid L).length c3).ownBlock ≠ some q := fun h => by have := HFu.out q h; omega
      have hne2 : (Value.slice A2 (told pid L).length c2).ownBlock ≠ some q := fun h => by have := HFv.out q h; omega
      exact ⟨_, rfl, HVV.out.set_ne hne2 _, HFv.out, _, IsD.set H2.out.blk HUU.out, (Chg.of_below HB.out (FD q (.slice A L.length c))).set (p := ⟨q, 0, none⟩) (.inl (.inl rfl)) _, fun g' hg => .inr (HFu.out g' hg)⟩
end Go.Proofs.YtameidoaenoppaaGreatDoor
