/- The document's Peers and End of package links; bounds stand in each statement. -/
import Derived.Test.YtlbbheopoflmjaaRo
import Derived.Test.YtlbbheopoflmjaaEn
namespace Go.Proofs.Ytlbbheopoflmjaa
open Go.RowKit

def GoodL (L : List Bd) : Prop := ∀ x ∈ L, Good x
def nbD1 (pid : Int) (x : Bd) : List Int := if x.r = 0 then [x.a + x.b - pid] else []
def nbD (pid : Int) (l : List Bd) : List Int := l.flatMap (nbD1 pid)
theorem nbD_snoc (pid : Int) (l : List Bd) (k : Nat) (h : k < l.length) : nbD pid (l.take (k + 1)) = nbD pid (l.take k) ++ nbD1 pid l[k] := by
  unfold nbD
  rw [List.take_succ_eq_append_getElem h, List.flatMap_append, List.flatMap_cons, List.flatMap_nil, List.append_nil]
theorem nbD_len (pid : Int) (l : List Bd) : (nbD pid l).length ≤ l.length := by
  induction l with
  | nil => simp [nbD]
  | cons x l ih =>
    have : nbD pid (x :: l) = nbD1 pid x ++ nbD pid l := by simp [nbD]
    rw [this, List.length_append]
    have : (nbD1 pid x).length ≤ 1 := by unfold nbD1; split <;> simp
    simp
    omega
theorem mem_nbD (L : List Bd) (pid y : Int) (_hG : GoodL L) : y ∈ nbD pid (L.filter (isOf pid)) ↔ Nb L pid y := by
  unfold nbD Nb
  rw [List.mem_flatMap]
  constructor
  · rintro ⟨b, hb, hy⟩
    obtain ⟨h1, h2⟩ := List.mem_filter.1 hb
    unfold nbD1 at hy
    split at hy
    · rename_i h0
      have h4 : b.a = pid ∨ b.b = pid := of_decide_eq_true h2
      have h5 : y = b.a + b.b - pid := by simpa using hy
      exact ⟨b, h1, h0, by rcases h4 with h | h; exact .inl ⟨h, by omega⟩; exact .inr ⟨h, by omega⟩⟩
    · simp at hy
  · rintro ⟨b, hb, h0, h⟩
    refine ⟨b, List.mem_filter.2 ⟨hb, decide_eq_true (by rcases h with h | h; exact .inl h.1; exact .inr h.1)⟩, ?_⟩
    unfold nbD1
    rw [if_pos h0]
    rcases h with ⟨h1, h2⟩ | ⟨h1, h2⟩ <;> (simp; omega)
def DPeersPost (w : World) (L : List Bd) (pid : Int) (e : Ending) (w' : World) : Prop := ∃ v S, e = .returned v ∧ Own w' 2 eI64 v S ∧ Fresh w v ∧ Below w.heap.size w w' ∧ SetOf S (Nb L pid)
set_option maxRecDepth 100000 in
set_option maxHeartbeats 4000000 in
theorem dpeers_any (w : World) (q : Nat) (lv : Value) (L : List Bd) (pid : Int) (h : IsD w q lv L) (hn : L.length ≤ 1000000) (hG : GoodL L) :
    Calls Try.prog 46 #[.pointer (some ⟨q, 0, none⟩), .int .i64 pid] w (DPeersPost w L pid) := by
  have HD := Kp.mk h
  have HG := Kp.mk hG
  clear h hG
  go_enter Try.func46, Try.ntmps46
  go_wp2_with (go_at_call 18; refine (dof_any _ q lv L pid HD.out hn).mono ?_; rintro e w1 ⟨v, rfl, ho, hf, hb⟩; obtain ⟨A, c, hv, hcc, hmc, hs0, hs1⟩ := ho.shape; subst hv)
  obtain ⟨xs, hxs⟩ : ∃ xs, xs = L.filter (isOf pid) := ⟨_, rfl⟩
  rw [← hxs] at ho hf hcc hs0 ⊢
  have hxl : xs.length ≤ 1000000 := by have := List.length_filter_le (isOf pid) L; rw [← hxs] at this; omega
  obtain ⟨m, hm⟩ : ∃ m, m = xs.length := ⟨_, rfl⟩
  rw [← hm] at ho hf hxl ⊢
  have HX := Kp.mk hxs
  have HM := Kp.mk hm
  have HO := Kp.mk ho
  have HF1 := Kp.mk hf
  have HB1 := Kp.mk hb
  have HS0 := Kp.mk hs0
  have HS1 := Kp.mk hs1
  have hw1 := hb.size
  clear hxs hm ho hf hb hs0 hs1 hcc hmc
  go_loopw [5, 7, 12] (fun v _ iv wr => ∃ k : Nat, k ≤ m ∧ iv = .int .i64 k ∧ Kp (Own wr 2 eI64 v (nbD pid (xs.take k))) ∧ Kp (Fresh w1 v) ∧ Kp (Below w1.heap.size w1 wr)) (fun _ _ iv _ => m - (intOf iv).toNat)
  case atStart => exact ⟨0, Nat.zero_le _, rfl, ⟨Own.nil _ _ _⟩, ⟨Fresh.nil _ _ _⟩, ⟨Below.refl _ _⟩⟩
  case round =>
    obtain ⟨k, hk, rfl, HV, HF, HB⟩ := hrel
    by_cases hlt : k < m
    · have hkx : k < xs.length := by rw [← HM.out]; exact hlt
      obtain ⟨g, rfl⟩ : ∃ g, A = some ⟨g, 0, none⟩ := by
        cases A with
        | none => have h1 := (HS0.out rfl).1; rw [h1] at hkx; simp at hkx
        | some y => obtain ⟨g, rfl⟩ := HS1.out y rfl; exact ⟨g, rfl⟩
      obtain ⟨a0, a1, a2⟩ := (HO.out.below HB.out).bd k hkx
      have hsn := nbD_snoc pid xs k hkx
      obtain ⟨x, hx⟩ : ∃ x, x = xs[k] := ⟨_, rfl⟩
      rw [← hx] at a0 a1 a2 hsn
      have hmem : x ∈ L.filter (isOf pid) := by rw [← HX.out, hx]; exact List.getElem_mem hkx
      have hgd := HG.out x (List.mem_filter.1 hmem).1
      have hab : x.a = pid ∨ x.b = pid := of_decide_eq_true (List.mem_filter.1 hmem).2
      have b1 : 1 ≤ x.a := hgd.1.1
      have b2 : x.a ≤ 1099511627776 := hgd.1.2
      have b3 : 1 ≤ x.b := hgd.2.1.1
      have b4 : x.b ≤ 1099511627776 := hgd.2.1.2
      have b5 : 1 ≤ pid := by omega
      have b6 : pid ≤ 1099511627776 := by omega
      have k0 : (0 : Int) ≤ (k : Int) := by omega
      have k1 : (k : Int) < (m : Int) := by omega
      obtain ⟨A2, c2, hv2, _⟩ := HV.out.shape
      subst hv2
      obtain ⟨tl, htl⟩ : ∃ tl, tl = nbD pid (xs.take k) := ⟨_, rfl⟩
      have htn : tl.length ≤ 1000000 := by
        have := nbD_len pid (xs.take k)
        rw [← htl, List.length_take] at this
        omega
      rw [← htl] at HV HF hsn ⊢
      have hbw := HB.out.size
      have hov := HV.out.alloc (.cells #[.int .i64 x.a, .int .i64 x.b, .int .i64 x.r] 48)
      have HB3 : Kp (∀ o, Below w1.heap.size w1 (wr.alloc o)) := ⟨fun o => HB.out.alloc hbw _⟩
      by_cases hr : x.r = 0
      · have HE : Kp (nbD pid (xs.take (k + 1)) = tl ++ [x.a + x.b - pid]) := ⟨by rw [hsn]; unfold nbD1; rw [if_pos hr]⟩
        have hd : (x.r == 0) = true := by simpa using hr
        clear hx htl hmem hgd hab hr hsn
        go_wp2_with (at_builtin; refine app1_ev T50 (x.a + x.b - pid) rfl _ _ rfl hov rfl rfl rfl (by simp) rfl (by omega) (by omega) ?_; intro A' n' c' w3 d0 d1 d2 d3; have D1 := Kp.mk d1; have D2 := Kp.mk d2; have D3 := Kp.mk d3; clear d0 d1 d2 d3)
        go_roundw
        case rel => exact ⟨k + 1, by omega, by go_num, ⟨by rw [HE.out]; exact D1.out⟩, ⟨HF.out.app (by simp; omega) D3.out⟩, ⟨chg_below (HB3.out _) D2.out (fun g' hg => HF.out g' hg) (by simp; omega)⟩⟩
        case measure => simp [intOf]; omega
      · have HE : Kp (nbD pid (xs.take (k + 1)) = tl) := ⟨by rw [hsn]; unfold nbD1; rw [if_neg hr]; simp⟩
        have hd : (x.r == 0) = false := by simpa using hr
        clear hx htl hmem hgd hab hr hsn
        go_wp2
        go_roundw
        case rel => exact ⟨k + 1, by omega, by go_num, ⟨by rw [HE.out]; exact hov⟩, HF, ⟨HB3.out _⟩⟩
        case measure => simp [intOf]; omega
    · obtain rfl : k = m := by omega
      have hall : xs.take k = xs := List.take_of_length_le (by rw [HM.out]; exact Nat.le_refl _)
      rw [hall] at HV
      obtain ⟨A2, c2, hv2, _⟩ := HV.out.shape
      subst hv2
      have hln := nbD_len pid xs
      have HMx := HM.out
      clear hall
      go_wp2_with (go_at_call 58; refine (set_any _ A2 c2 (nbD pid xs) _ rfl (HV.out.src rfl) (by omega)).mono ?_; rintro e w5 ⟨v5, S, rfl, h5, hf5, hb5, hS⟩; have H5 := Kp.mk h5; have HF5 := Kp.mk hf5; have HB5 := Kp.mk hb5; have HS5 := Kp.mk hS; clear h5 hf5 hb5 hS)
      go_ret
      have hb9 := bstep HB1.out HB1.out.size HB.out
      refine ⟨_, S, rfl, H5.out, HF5.out.up hb9.size, bstep hb9 hb9.size HB5.out, HS5.out.imp fun y => ?_⟩
      rw [HX.out]
      exact mem_nbD L pid y HG.out
/-! ### End -/
theorem told_snocL (pid : Int) (L : List Bd) (k : Nat) (hk : k < L.length) : told pid (L.take (k + 1)) = if (isOf pid L[k] && tells pid L[k]) = true then told pid (L.take k) ++ [L[k]] else told pid (L.take k) := fil_snoc _ L k hk
def leftL (pid : Int) (L : List Bd) : List Bd := L.filter (fun x => !isOf pid x)
theorem left_snoc (pid : Int) (L : List Bd) (k : Nat) (hk : k < L.length) : leftL pid (L.take (k + 1)) = if isOf pid L[k] = true then leftL pid (L.take k) else leftL pid (L.take k) ++ [L[k]] := by
  unfold leftL
  rw [fil_snoc _ L k hk]
  cases isOf pid L[k] <;> rfl
theorem left_len (pid : Int) (L : List Bd) : (leftL pid L).length ≤ L.length := List.length_filter_le _ _
def DEndPost (w : World) (q : Nat) (lv : Value) (L : List Bd) (pid : Int) (e : Ending) (w' : World) : Prop :=
  ∃ v, e = .returned (.tuple #[v, .int .i64 0]) ∧ Own w' 48 eBd v (told pid L) ∧ Fresh w v ∧ DStep w q lv (leftL pid L) w'
set_option maxHeartbeats 1000000 in
theorem dend_bad (w : World) (q : Nat) (pid : Int) (h : decide (IsPid pid) = false) : Calls Try.prog 39 #[.pointer (some ⟨q, 0, none⟩), .int .i64 pid] w fun e w' => e = .returned (.tuple #[.slice none 0 0, .int .i64 1]) ∧ w = w' := by
  go_enter Try.func39, Try.ntmps39
  go_wp2_with (go_at_call 20; refine (dPid_any _ pid).mono ?_; rintro e w' ⟨rfl, rfl⟩; rw [h])
  go_ret2
  exact ⟨rfl, rfl⟩
set_option maxRecDepth 100000 in
set_option maxHeartbeats 8000000 in
theorem dend_any (w : World) (q : Nat) (lv : Value) (L : List Bd) (pid : Int) (h : IsD w q lv L) (hn : L.length ≤ 1000000) (hp : decide (IsPid pid) = true) :
    Calls Try.prog 39 #[.pointer (some ⟨q, 0, none⟩), .int .i64 pid] w (DEndPost w q lv L pid) := by
  obtain ⟨A, c, hv, _, _, hs0, hs1⟩ := h.own.shape
  subst hv
  have q0 := h.c0
  have qlt := lt_of_block h.blk
  have HD := Kp.mk h
  have HS0 := Kp.mk hs0
  have HS1 := Kp.mk hs1
  clear h hs0 hs1
  go_enter Try.func39, Try.ntmps39
  go_wp2_with (go_at_call 20; refine (dPid_any _ pid).mono ?_; rintro e w' ⟨rfl, rfl⟩; rw [hp])
  go_loopw [6, 7, 9, 18] (fun v u _ iv wr => ∃ k : Nat, k ≤ L.length ∧ iv = .int .i64 k ∧ Kp (Own wr 48 eBd v (told pid (L.take k))) ∧ Kp (Own wr 48 eBd u (leftL pid (L.take k))) ∧ Kp (Fresh w v) ∧ Kp (Fresh w u) ∧ Kp (∀ g, v.ownBlock = some g → u.ownBlock ≠ some g) ∧ Kp (Below w.heap.size w wr)) (fun _ _ _ iv _ => L.length - (intOf iv).toNat)
  case atStart => exact ⟨0, Nat.zero_le _, rfl, ⟨Own.nil _ _ _⟩, ⟨Own.nil _ _ _⟩, ⟨Fresh.nil _ _ _⟩, ⟨Fresh.nil _ _ _⟩, ⟨fun g h => by cases h⟩, ⟨Below.refl _ _⟩⟩
  case round =>
    obtain ⟨k, hk, rfl, HV, HU, HFv, HFu, HN, HB⟩ := hrel
    by_cases hlt : k < L.length
    · obtain ⟨g, rfl⟩ : ∃ g, A = some ⟨g, 0, none⟩ := by
        cases A with
        | none => have h1 := (HS0.out rfl).1; rw [h1] at hlt; simp at hlt
        | some y => obtain ⟨g, rfl⟩ := HS1.out y rfl; exact ⟨g, rfl⟩
      obtain ⟨a0, a1, a2⟩ := (HD.out.own.below HB.out).bd k hlt
      have hts := told_snocL pid L k hlt
      have hls := left_snoc pid L k hlt
      obtain ⟨x, hx⟩ : ∃ x, x = L[k] := ⟨_, rfl⟩
      rw [← hx] at a0 a1 a2 hts hls
      have k0 : (0 : Int) ≤ (k : Int) := by omega
      have k1 : (k : Int) < (L.length : Int) := by omega
      obtain ⟨A2, c2, hv2, _⟩ := HV.out.shape
      subst hv2
      obtain ⟨A3, c3, hv3, _⟩ := HU.out.shape
      subst hv3
      obtain ⟨tl, htl⟩ : ∃ tl, tl = told pid (L.take k) := ⟨_, rfl⟩
      obtain ⟨ul, hul⟩ : ∃ ul, ul = leftL pid (L.take k) := ⟨_, rfl⟩
      have htn : tl.length ≤ 1000000 := by
        have := told_len pid (L.take k)
        rw [← htl, List.length_take] at this
        omega
      have hun : ul.length ≤ 1000000 := by
        have := left_len pid (L.take k)
        rw [← hul, List.length_take] at this
        omega
      rw [← htl] at HV HFv HN hts ⊢
      rw [← hul] at HU HFu HN hls ⊢
      have hbw := HB.out.size
      have hov := HV.out.alloc (.cells #[.int .i64 x.a, .int .i64 x.b, .int .i64 x.r] 48)
      have hou := HU.out.alloc (.cells #[.int .i64 x.a, .int .i64 x.b, .int .i64 x.r] 48)
      have HOV := Kp.mk hov
      have HOU := Kp.mk hou
      have HB3 : Kp (∀ o, Below w.heap.size w (wr.alloc o)) := ⟨fun o => HB.out.alloc hbw _⟩
      have hcA : (x.a == pid) = true ∧ (x.a != pid) = false ∨ (x.a == pid) = false ∧ (x.a != pid) = true := by by_cases e : x.a = pid <;> simp [e]
      have hcB : (x.b == pid) = true ∧ (x.b != pid) = false ∨ (x.b == pid) = false ∧ (x.b != pid) = true := by by_cases e : x.b = pid <;> simp [e]
      have hcR : (x.r == 0) = true ∨ (x.r == 0) = false := by by_cases e : x.r = 0 <;> simp [e]
      have hbAll : Kp ((isOf pid x = (x.a == pid || x.b == pid)) ∧ tells pid x = (x.r == 0 || (x.b == pid && (x.a != pid)))) := ⟨by
        unfold isOf tells
        constructor <;> (rw [Bool.eq_iff_iff]; simp)⟩
      have HTS := Kp.mk hts
      have HLS := Kp.mk hls
      clear hx htl hul hts hls
      rcases hcA with ⟨e1, e2⟩ | ⟨e1, e2⟩
      · rcases hcB with ⟨b1, b2⟩ | ⟨b1, b2⟩
        · rcases hcR with r1 | r1
          · have hi : isOf pid x = true := by rw [hbAll.out.1, e1, b1]; rfl
            have hte : tells pid x = true := by rw [hbAll.out.2, r1, b1, e2]; rfl
            have HT : Kp (told pid (L.take (k + 1)) = tl ++ [x] ∧ leftL pid (L.take (k + 1)) = ul) := ⟨by rw [HTS.out, HLS.out, hi, hte]; exact ⟨rfl, rfl⟩⟩
            clear hi hte
            go_wp2_with (at_builtin; refine app1_ev T27 x rfl _ _ rfl hov rfl rfl rfl (by simp) rfl (by omega) (by omega) ?_; intro A' n' c' w6 d0 d1 d2 d3; have D1 := Kp.mk d1; have D2 := Kp.mk d2; have D3 := Kp.mk d3; clear d0 d1 d2 d3)
            go_roundw
            case rel =>
              refine ⟨k + 1, by omega, by go_num, ⟨?_⟩, ⟨?_⟩, ⟨?_⟩, HFu, ⟨?_⟩, ⟨?_⟩⟩
              · rw [HT.out.1]; exact D1.out
              · rw [HT.out.2]; exact HOU.out.frame D2.out (fun g' hg hF => HN.out g' hF hg)
              · exact HFv.out.app (by simp; omega) D3.out
              · intro g' hg hF
                rcases D3.out with h | ⟨g2, h, h2⟩
                · exact HN.out g' (h ▸ hg) hF
                · rw [h] at hg; cases hg
                  have := HOU.out.lt hF
                  omega
              · exact chg_below (HB3.out _) D2.out (fun g' hg => HFv.out g' hg) (by simp; omega)
            case measure => simp [intOf]; omega
          · have hi : isOf pid x = true := by rw [hbAll.out.1, e1, b1]; rfl
            have hte : tells pid x = false := by rw [hbAll.out.2, r1, b1, e2]; rfl
            have HT : Kp (told pid (L.take (k + 1)) = tl ∧ leftL pid (L.take (k + 1)) = ul) := ⟨by rw [HTS.out, HLS.out, hi, hte]; exact ⟨rfl, rfl⟩⟩
            clear hi hte
            go_wp2
            go_roundw
            case rel => exact ⟨k + 1, by omega, by go_num, ⟨by rw [HT.out.1]; exact HOV.out⟩, ⟨by rw [HT.out.2]; exact HOU.out⟩, HFv, HFu, HN, ⟨HB3.out _⟩⟩
            case measure => simp [intOf]; omega
        · rcases hcR with r1 | r1
          · have hi : isOf pid x = true := by rw [hbAll.out.1, e1, b1]; rfl
            have hte : tells pid x = true := by rw [hbAll.out.2, r1, b1, e2]; rfl
            have HT : Kp (told pid (L.take (k + 1)) = tl ++ [x] ∧ leftL pid (L.take (k + 1)) = ul) := ⟨by rw [HTS.out, HLS.out, hi, hte]; exact ⟨rfl, rfl⟩⟩
            clear hi hte
            go_wp2_with (at_builtin; refine app1_ev T27 x rfl _ _ rfl hov rfl rfl rfl (by simp) rfl (by omega) (by omega) ?_; intro A' n' c' w6 d0 d1 d2 d3; have D1 := Kp.mk d1; have D2 := Kp.mk d2; have D3 := Kp.mk d3; clear d0 d1 d2 d3)
            go_roundw
            case rel =>
              refine ⟨k + 1, by omega, by go_num, ⟨?_⟩, ⟨?_⟩, ⟨?_⟩, HFu, ⟨?_⟩, ⟨?_⟩⟩
              · rw [HT.out.1]; exact D1.out
              · rw [HT.out.2]; exact HOU.out.frame D2.out (fun g' hg hF => HN.out g' hF hg)
              · exact HFv.out.app (by simp; omega) D3.out
              · intro g' hg hF
                rcases D3.out with h | ⟨g2, h, h2⟩
                · exact HN.out g' (h ▸ hg) hF
                · rw [h] at hg; cases hg
                  have := HOU.out.lt hF
                  omega
              · exact chg_below (HB3.out _) D2.out (fun g' hg => HFv.out g' hg) (by simp; omega)
            case measure => simp [intOf]; omega
          · have hi : isOf pid x = true := by rw [hbAll.out.1, e1, b1]; rfl
            have hte : tells pid x = false := by rw [hbAll.out.2, r1, b1, e2]; rfl
            have HT : Kp (told pid (L.take (k + 1)) = tl ∧ leftL pid (L.take (k + 1)) = ul) := ⟨by rw [HTS.out, HLS.out, hi, hte]; exact ⟨rfl, rfl⟩⟩
            clear hi hte
            go_wp2
            go_roundw
            case rel => exact ⟨k + 1, by omega, by go_num, ⟨by rw [HT.out.1]; exact HOV.out⟩, ⟨by rw [HT.out.2]; exact HOU.out⟩, HFv, HFu, HN, ⟨HB3.out _⟩⟩
            case measure => simp [intOf]; omega
      · rcases hcB with ⟨b1, b2⟩ | ⟨b1, b2⟩
        · rcases hcR with r1 | r1
          · have hi : isOf pid x = true := by rw [hbAll.out.1, e1, b1]; rfl
            have hte : tells pid x = true := by rw [hbAll.out.2, r1, b1, e2]; rfl
            have HT : Kp (told pid (L.take (k + 1)) = tl ++ [x] ∧ leftL pid (L.take (k + 1)) = ul) := ⟨by rw [HTS.out, HLS.out, hi, hte]; exact ⟨rfl, rfl⟩⟩
            clear hi hte
            go_wp2_with (at_builtin; refine app1_ev T27 x rfl _ _ rfl hov rfl rfl rfl (by simp) rfl (by omega) (by omega) ?_; intro A' n' c' w6 d0 d1 d2 d3; have D1 := Kp.mk d1; have D2 := Kp.mk d2; have D3 := Kp.mk d3; clear d0 d1 d2 d3)
            go_roundw
            case rel =>
              refine ⟨k + 1, by omega, by go_num, ⟨?_⟩, ⟨?_⟩, ⟨?_⟩, HFu, ⟨?_⟩, ⟨?_⟩⟩
              · rw [HT.out.1]; exact D1.out
              · rw [HT.out.2]; exact HOU.out.frame D2.out (fun g' hg hF => HN.out g' hF hg)
              · exact HFv.out.app (by simp; omega) D3.out
              · intro g' hg hF
                rcases D3.out with h | ⟨g2, h, h2⟩
                · exact HN.out g' (h ▸ hg) hF
                · rw [h] at hg; cases hg
                  have := HOU.out.lt hF
                  omega
              · exact chg_below (HB3.out _) D2.out (fun g' hg => HFv.out g' hg) (by simp; omega)
            case measure => simp [intOf]; omega
          · have hi : isOf pid x = true := by rw [hbAll.out.1, e1, b1]; rfl
            have hte : tells pid x = true := by rw [hbAll.out.2, r1, b1, e2]; rfl
            have HT : Kp (told pid (L.take (k + 1)) = tl ++ [x] ∧ leftL pid (L.take (k + 1)) = ul) := ⟨by rw [HTS.out, HLS.out, hi, hte]; exact ⟨rfl, rfl⟩⟩
            clear hi hte
            go_wp2_with (at_builtin; refine app1_ev T27 x rfl _ _ rfl hov rfl rfl rfl (by simp) rfl (by omega) (by omega) ?_; intro A' n' c' w6 d0 d1 d2 d3; have D1 := Kp.mk d1; have D2 := Kp.mk d2; have D3 := Kp.mk d3; clear d0 d1 d2 d3)
            go_roundw
            case rel =>
              refine ⟨k + 1, by omega, by go_num, ⟨?_⟩, ⟨?_⟩, ⟨?_⟩, HFu, ⟨?_⟩, ⟨?_⟩⟩
              · rw [HT.out.1]; exact D1.out
              · rw [HT.out.2]; exact HOU.out.frame D2.out (fun g' hg hF => HN.out g' hF hg)
              · exact HFv.out.app (by simp; omega) D3.out
              · intro g' hg hF
                rcases D3.out with h | ⟨g2, h, h2⟩
                · exact HN.out g' (h ▸ hg) hF
                · rw [h] at hg; cases hg
                  have := HOU.out.lt hF
                  omega
              · exact chg_below (HB3.out _) D2.out (fun g' hg => HFv.out g' hg) (by simp; omega)
            case measure => simp [intOf]; omega
        · have hi : isOf pid x = false := by rw [hbAll.out.1, e1, b1]; rfl
          have HT : Kp (told pid (L.take (k + 1)) = tl ∧ leftL pid (L.take (k + 1)) = ul ++ [x]) := ⟨by rw [HTS.out, HLS.out, hi]; exact ⟨rfl, rfl⟩⟩
          clear hi
          go_wp2_with (at_builtin; refine app1_ev T27 x rfl _ _ rfl hou rfl rfl rfl (by simp) rfl (by omega) (by omega) ?_; intro A' n' c' w6 d0 d1 d2 d3; have D1 := Kp.mk d1; have D2 := Kp.mk d2; have D3 := Kp.mk d3; clear d0 d1 d2 d3)
          go_roundw
          case rel =>
            refine ⟨k + 1, by omega, by go_num, ⟨?_⟩, ⟨?_⟩, HFv, ⟨?_⟩, ⟨?_⟩, ⟨?_⟩⟩
            · rw [HT.out.1]; exact HOV.out.frame D2.out (fun g' hg hF => HN.out g' hg hF)
            · rw [HT.out.2]; exact D1.out
            · exact HFu.out.app (by simp; omega) D3.out
            · intro g' hg hF
              rcases D3.out with h | ⟨g2, h, h2⟩
              · exact HN.out g' hg (h ▸ hF)
              · rw [h] at hF; cases hF
                have := HOV.out.lt hg
                omega
            · exact chg_below (HB3.out _) D2.out (fun g' hg => HFu.out g' hg) (by simp; omega)
          case measure => simp [intOf]; omega
    · obtain rfl : k = L.length := by omega
      obtain ⟨A2, c2, hv2, _⟩ := HV.out.shape
      subst hv2
      obtain ⟨A3, c3, hv3, _⟩ := HU.out.shape
      subst hv3
      rw [List.take_length] at HFv HFu ⊢
      have HV' := HV.out
      have HU' := HU.out
      rw [List.take_length] at HV' HU'
      have HVV := Kp.mk HV'
      have HUU := Kp.mk HU'
      have H2 := Kp.mk (HD.out.below HB.out)
      have q2 := H2.out.c0
      have z2 := blk_f H2.out.blk 0
      have l2 := H2.out.lt
      clear HV' HU'
      go_wp2
      go_ret2
      have hne : (Value.slice A3 (leftL pid L).length c3).ownBlock ≠ some q := fun h => by have := HFu.out q h; omega
      have hne2 : (Value.slice A2 (told pid L).length c2).ownBlock ≠ some q := fun h => by have := HFv.out q h; omega
      exact ⟨_, rfl, HVV.out.set_ne hne2 _, HFv.out, _, IsD.set H2.out.blk HUU.out, (Chg.of_below HB.out (FD q (.slice A L.length c))).set (p := ⟨q, 0, none⟩) (.inl (.inl rfl)) _, fun g' hg => .inr (HFu.out g' hg)⟩
end Go.Proofs.Ytlbbheopoflmjaa
