/- What End of package links does: a process's bonds go, those that must be told are told; for a graph whose last number is below 10^18. -/
import Derived.Test.YtameidoaenoppaaGreatDoorLOa
import Derived.Test.YtameidoaenoppaaGreatDoorLSel
import Derived.Test.YtameidoaenoppaaGreatDoorLRa
import Derived.Test.YtameidoaenoppaaGreatDoorLR
namespace Go.Proofs.YtameidoaenoppaaGreatDoor
open Go.RowKit

theorem IsG.below {w w' : World} {p bm lm rm : Nat} {ns : List NB} {last : Int} (h : IsG w p bm lm rm ns last) (hb : Below w.heap.size w w') : IsG w' p bm lm rm ns last := ⟨h.g.below hb, h.ok⟩
def tells (pid : Int) (x : Bd) : Bool := decide (x.r = 0 ∨ (x.b = pid ∧ x.a ≠ pid))
def told (pid : Int) (l : List Bd) : List Bd := l.filter (fun x => isOf pid x && tells pid x)
def endN (pid : Int) (ns : List NB) (k : Nat) : List NB := (ns.take k).filter (fun p => !isOf pid p.2) ++ ns.drop k
def leftN (pid : Int) (ns : List NB) : List NB := ns.filter (fun p => !isOf pid p.2)
theorem GOk.sub {ns ms : List NB} {last : Int} (h : GOk ns last) (hs : ms.Sublist ns) : GOk ms last :=
  ⟨h.rise.sublist hs, fun p hp => h.top p (hs.subset hp), h.last0, fun p hp => h.good p (hs.subset hp), h.pairs.sublist hs, h.refs.sublist hs, Nat.le_trans hs.length_le h.len⟩
theorem endN_zero (pid : Int) (ns : List NB) : endN pid ns 0 = ns := by simp [endN]
theorem endN_all (pid : Int) (ns : List NB) (k : Nat) (hk : ns.length ≤ k) : endN pid ns k = leftN pid ns := by
  unfold endN leftN
  rw [List.take_of_length_le hk, List.drop_eq_nil_of_le hk, List.append_nil]
theorem endN_sub (pid : Int) (ns : List NB) (k : Nat) : (endN pid ns k).Sublist ns := by
  have h : (endN pid ns k).Sublist (ns.take k ++ ns.drop k) := List.Sublist.append (List.filter_sublist ..) (List.Sublist.refl _)
  rwa [List.take_append_drop] at h
theorem endN_keep (pid : Int) (ns : List NB) (k : Nat) (hk : k < ns.length) (h : isOf pid ns[k].2 = false) : endN pid ns (k + 1) = endN pid ns k := by
  unfold endN
  rw [List.take_succ_eq_append_getElem hk, List.filter_append, List.drop_eq_getElem_cons hk]
  simp [h]
theorem endN_out (pid : Int) (ns : List NB) (last : Int) (hG : GOk ns last) (k : Nat) (hk : k < ns.length) (h : isOf pid ns[k].2 = true) : endN pid ns (k + 1) = outN (endN pid ns k) ns[k].1 := by
  have hr := hG.rise
  rw [← List.take_append_drop k ns, List.drop_eq_getElem_cons hk] at hr
  obtain ⟨h1, h2, h3⟩ := List.pairwise_append.1 hr
  obtain ⟨h4, h5⟩ := List.pairwise_cons.1 h2
  unfold endN outN
  rw [List.take_succ_eq_append_getElem hk, List.filter_append, List.drop_eq_getElem_cons hk, List.filter_append]
  have e1 : ((ns.take k).filter (fun p => !isOf pid p.2)).filter (fun p => decide (p.1 ≠ ns[k].1)) = (ns.take k).filter (fun p => !isOf pid p.2) := by
    rw [List.filter_eq_self]
    intro p hp
    have := h3 p (List.mem_filter.1 hp).1 _ (List.mem_cons_self ..)
    simp; omega
  have e2 : (ns.drop (k + 1)).filter (fun p => decide (p.1 ≠ ns[k].1)) = ns.drop (k + 1) := by
    rw [List.filter_eq_self]
    intro p hp
    have := h4 p hp
    simp; omega
  have e3 : [ns[k]].filter (fun p => !isOf pid p.2) = [] := by simp [h]
  rw [e1, e3, List.append_nil, List.filter_cons, if_neg (by simp), e2]
theorem told_snoc (pid : Int) (ns : List NB) (k : Nat) (hk : k < ns.length) : told pid ((ns.take (k + 1)).map (·.2)) = if (isOf pid ns[k].2 && tells pid ns[k].2) = true then told pid ((ns.take k).map (·.2)) ++ [ns[k].2] else told pid ((ns.take k).map (·.2)) := by
  unfold told
  rw [List.take_succ_eq_append_getElem hk, List.map_append, List.filter_append]
  by_cases h1 : (isOf pid ns[k].2 && tells pid ns[k].2) = true
  · rw [if_pos h1]; simp only [List.map_cons, List.map_nil, List.filter_cons, h1, List.filter_nil, if_true]
  · rw [if_neg h1]; simp only [List.map_cons, List.map_nil, List.filter_cons, h1, List.filter_nil]; simp
theorem told_len (pid : Int) (l : List Bd) : (told pid l).length ≤ l.length := List.length_filter_le _ _
def EndPost (w : World) (p bm lm rm : Nat) (ns : List NB) (last pid : Int) (e : Ending) (w' : World) : Prop :=
  ∃ v, e = .returned (.tuple #[v, .int .i64 0]) ∧ Own w' 71 eBd v (told pid (ns.map (·.2))) ∧ Fresh w v ∧ Chg (FG p bm lm rm) w w' ∧ IsG w' p bm lm rm (leftN pid ns) last
set_option maxHeartbeats 1000000 in
theorem end_bad (w : World) (p : Nat) (pid : Int) (h : decide (IsPid pid) = false) : Calls Tryz.prog 26 #[.pointer (some ⟨p, 0, none⟩), .int .i64 pid] w fun e w' => e = .returned (.tuple #[.slice none 0 0, .int .i64 1]) ∧ w = w' := by
  go_enter Tryz.func26, Tryz.ntmps26
  go_wp2_with (go_at_call 44; refine (isPid_any _ pid).mono ?_; rintro e w' ⟨rfl, rfl⟩; rw [h])
  go_ret2
  exact ⟨rfl, rfl⟩
set_option maxHeartbeats 1000000 in
theorem end_nil (w : World) (pid : Int) : Calls Tryz.prog 26 #[.pointer none, .int .i64 pid] w fun e w' => e = .returned (.tuple #[.slice none 0 0, .int .i64 2]) ∧ w = w' := by
  go_enter Tryz.func26, Tryz.ntmps26
  go_wp2
  go_ret2
  exact ⟨rfl, rfl⟩
set_option maxRecDepth 100000 in
set_option maxHeartbeats 8000000 in
theorem end_any (hs : SortC) (w : World) (p bm lm rm : Nat) (ns : List NB) (last pid : Int) (h : IsG w p bm lm rm ns last) (hla : last ≤ 1000000000000000000) (hp : decide (IsPid pid) = true) :
    Calls Tryz.prog 26 #[.pointer (some ⟨p, 0, none⟩), .int .i64 pid] w (EndPost w p bm lm rm ns last pid) := by
  have hlen : ns.length ≤ 1024 := h.ok.len
  have HG := Kp.mk h
  have HORD := Kp.mk (order_any hs w p bm lm rm ns last h)
  have hFG : Kp (∀ g, FG p bm lm rm g → g < w.heap.size) := ⟨h.g.lt⟩
  clear h
  go_enter Tryz.func26, Tryz.ntmps26
  go_wp2_with (first
    | (go_at_call 44; refine (isPid_any _ pid).mono ?_; rintro e w' ⟨rfl, rfl⟩; rw [hp])
    | (go_at_call 59; refine HORD.out.mono ?_; rintro e w1 ⟨v, rfl, ho, hf, hb⟩; obtain ⟨A, c, hv, hcv, _, hs0, hs1⟩ := ho.shape; subst hv))
  rw [nums_len] at hcv ⊢
  obtain ⟨m, hm⟩ : ∃ m, m = ns.length := ⟨_, rfl⟩
  rw [nums_len, ← hm] at ho hf
  rw [← hm] at hlen hcv ⊢
  have HO := Kp.mk ho
  have HF := Kp.mk hf
  have HB1 := Kp.mk hb
  have HM := Kp.mk hm
  have HS0 := Kp.mk hs0
  have HS1 := Kp.mk hs1
  have hw1 : w.heap.size ≤ w1.heap.size := hb.size
  clear ho hf hb hm hs0 hs1 hcv
  go_loopw [6, 8, 9, 20] (fun v _ _ i wr => ∃ (k : Nat), k ≤ m ∧ i = .int .i64 k ∧ Kp (IsG wr p bm lm rm (endN pid ns k) last) ∧ Kp (Own wr 71 eBd v (told pid ((ns.take k).map (·.2)))) ∧ Kp (Fresh w v) ∧ Kp (Own wr 2 eI64 (.slice A m c) (nums ns)) ∧ Kp (Chg (FG p bm lm rm) w wr)) (fun _ _ _ i _ => m - (intOf i).toNat)
  case atStart => exact ⟨0, Nat.zero_le _, rfl, ⟨by rw [endN_zero]; exact HG.out.below HB1.out⟩, ⟨Own.nil _ _ _⟩, ⟨Fresh.nil _ _ _⟩, HO, ⟨Chg.of_below HB1.out _⟩⟩
  case round =>
    obtain ⟨k, hk, rfl, HK, HV, HFv, HN, HC⟩ := hrel
    by_cases hlt : k < m
    · have hkn : k < ns.length := by rw [← HM.out]; exact hlt
      obtain ⟨g, rfl⟩ : ∃ g, A = some ⟨g, 0, none⟩ := by
        cases A with
        | none => have h1 := (HS0.out rfl).1; have := nums_len ns; rw [h1] at this; simp at this; omega
        | some x => obtain ⟨g, rfl⟩ := HS1.out x rfl; exact ⟨g, rfl⟩
      have hgw : w.heap.size ≤ g := HF.out g rfl
      obtain ⟨nx, hnx⟩ : ∃ nx, nx = ns[k] := ⟨_, rfl⟩
      have hq : wr.cell? ⟨g, k, none⟩ = some (.int .i64 nx.1) := by
        have h1 := HN.out.elem k 0 (by rw [nums_len]; exact hkn) (by decide)
        rw [hnx]; simpa [eI64, nums] using h1
      have hsz : w.heap.size ≤ wr.heap.size := HC.out.size
      have cp := HK.out.g.c0
      have lp := lt_of_block HK.out.g.blk
      have hmem : nx ∈ endN pid ns k := by
        unfold endN
        rw [List.drop_eq_getElem_cons hkn, hnx]
        exact List.mem_append_right _ (List.mem_cons_self ..)
      have hts := told_snoc pid ns k hkn
      have hek := endN_keep pid ns k hkn
      have heo := endN_out pid ns last HG.out.ok k hkn
      rw [← hnx] at hts hek heo
      obtain ⟨nn, x⟩ := nx
      have htp := HK.out.ok.top _ hmem
      simp only at hq htp hts hek heo
      have okn : K2.ok nn := ok2 nn (by omega) (by omega)
      have hl0 : (Instr.lookup 83 (.map (some bm)) (.int .i64 nn) false).run Tryz.prog wr = .ok (.agg #[.int .i64 x.a, .int .i64 x.b, .int .i64 x.r]) wr := by
        have h1 := HK.out.g.mb.get Tryz.underlying83 (Tryz.zeroValue71 wr) nn okn
        rw [(look_bonds HK.out.ok).2 ⟨x, hmem, rfl⟩] at h1
        exact h1
      have k0 : (0 : Int) ≤ (k : Int) := by omega
      have k1 : (k : Int) < (m : Int) := by omega
      obtain ⟨Wa, hWa⟩ : ∃ Wa, Wa = wr.alloc (.cells #[.int .i64 x.a, .int .i64 x.b, .int .i64 x.r] 71) := ⟨_, rfl⟩
      have hba : Below wr.heap.size wr Wa := by rw [hWa]; exact (Below.refl _ _).alloc (Nat.le_refl _) _
      have XA := Kp.mk (show Wa.heap[wr.heap.size]? = some (.cells #[.int .i64 x.a, .int .i64 x.b, .int .i64 x.r] 71 (0, 0)) by rw [hWa]; exact blk_new wr _)
      have HBA := Kp.mk hba
      have HWA := Kp.mk hWa
      have hga : IsG Wa p bm lm rm (endN pid ns k) last := HK.out.below hba
      have HGA := Kp.mk hga
      have HMEM := Kp.mk hmem
      have HTS := Kp.mk hts
      have HEK := Kp.mk hek
      have HEO := Kp.mk heo
      obtain ⟨A2, c2, hv2, hc2, hm2, _, _⟩ := HV.out.shape
      subst hv2
      have htl : (told pid ((ns.take k).map (·.2))).length ≤ 1024 := by have := told_len pid ((ns.take k).map (·.2)); rw [List.length_map, List.length_take] at this; omega
      obtain ⟨tl, htl2⟩ : ∃ tl, tl = told pid ((ns.take k).map (·.2)) := ⟨_, rfl⟩
      rw [← htl2] at HV htl HTS HFv ⊢
      have hcA : (x.a == pid) = true ∧ (x.a != pid) = false ∨ (x.a == pid) = false ∧ (x.a != pid) = true := by by_cases e : x.a = pid <;> simp [e]
      have hcB : (x.b == pid) = true ∧ (x.b != pid) = false ∨ (x.b == pid) = false ∧ (x.b != pid) = true := by by_cases e : x.b = pid <;> simp [e]
      have hcR : (x.r == 0) = true ∨ (x.r == 0) = false := by by_cases e : x.r = 0 <;> simp [e]
      have hbAll : Kp ((isOf pid x = (x.a == pid || x.b == pid)) ∧ tells pid x = (x.r == 0 || (x.b == pid && (x.a != pid)))) := ⟨by
        unfold isOf tells
        constructor <;> (rw [Bool.eq_iff_iff]; simp)⟩
      clear hga hmem htp okn hnx hba hWa hts hek heo htl2
      rcases hcA with ⟨a1, a2⟩ | ⟨a1, a2⟩
      · rcases hcB with ⟨b1, b2⟩ | ⟨b1, b2⟩
        · rcases hcR with r1 | r1
          · have hi : isOf pid x = true := by rw [hbAll.out.1, a1, b1]; rfl
            have hte : tells pid x = true := by rw [hbAll.out.2, r1, b1, a2]; rfl
            have HE := Kp.mk (HEO.out hi)
            have HT : Kp (told pid ((ns.take (k + 1)).map (·.2)) = tl ++ [x]) := ⟨by rw [HTS.out, hi, hte]; rfl⟩
            clear hi hte
            go_wp2_with (first
              | (go_at_call 60; refine (out_any _ p bm lm rm (endN pid ns k) last nn x (HWA.out ▸ HGA.out) HMEM.out hla).mono ?_; rintro e w5 ⟨⟨v5, rfl⟩, hg5, hc5⟩; rw [← HWA.out] at hc5; have x5 := hc5.at XA.out (fun h => by have := hFG.out _ h; omega); have b50 := blk_c x5 0; have b51 := blk_c x5 1; have b52 := blk_c x5 2; have HG5 := Kp.mk hg5; have HC5 := Kp.mk ((Chg.of_below HBA.out (FG p bm lm rm)).then hc5); have HV5 := HV.out.frame HC5.out (fun g hg hF => by have h1 := hFG.out _ hF; have h2 := HFv.out _ hg; omega); have HN5 := Kp.mk (HN.out.frame HC5.out (fun g' hg' hF => by have h1 := hFG.out _ hF; have h2 := HF.out _ hg'; omega)); clear x5 hg5 hc5)
              | (at_builtin; refine app1_ev T27 x rfl _ _ rfl HV5 rfl rfl rfl (by simp) rfl (by omega) (by omega) ?_; intro A' n' c' w6 d0 d1 d2 d3; have D1 := Kp.mk d1; have D2 := Kp.mk d2; have D3 := Kp.mk d3; clear d0 d1 d2 d3))
            have hs6 : w.heap.size ≤ w5.heap.size := Nat.le_trans hsz HC5.out.size
            have hnf : ∀ g', (Value.slice A2 tl.length c2).ownBlock = some g' → ¬ FG p bm lm rm g' := fun g' hg' hF => by have h1 := hFG.out _ hF; have h2 := HFv.out _ hg'; omega
            go_roundw
            case rel =>
              refine ⟨k + 1, by omega, by go_num, ⟨?_⟩, ⟨?_⟩, ⟨?_⟩, ⟨?_⟩, ⟨?_⟩⟩
              · rw [HE.out]
                exact ⟨HG5.out.g.frame D2.out (fun g' hF hg' => hnf g' hg' hF), HG5.out.ok⟩
              · rw [HT.out]; exact D1.out
              · exact HFv.out.app hs6 D3.out
              · refine HN5.out.frame D2.out (fun g' hg' hF => ?_)
                obtain ⟨cur, hcur⟩ := HN5.out.blk' hg'
                exact HV5.ne hcur (by decide) hF
              · exact (HC.out.then HC5.out).trans D2.out (fun g' hg' hF => by have h2 := HFv.out _ hF; omega)
            case measure => simp [intOf]; omega
          · have hi : isOf pid x = true := by rw [hbAll.out.1, a1, b1]; rfl
            have hte : tells pid x = false := by rw [hbAll.out.2, r1, b1, a2]; rfl
            have HE := Kp.mk (HEO.out hi)
            have HT : Kp (told pid ((ns.take (k + 1)).map (·.2)) = tl) := ⟨by rw [HTS.out, hi, hte]; rfl⟩
            clear hi hte
            go_wp2_with (go_at_call 60; refine (out_any _ p bm lm rm (endN pid ns k) last nn x (HWA.out ▸ HGA.out) HMEM.out hla).mono ?_; rintro e w5 ⟨⟨v5, rfl⟩, hg5, hc5⟩; rw [← HWA.out] at hc5; have x5 := hc5.at XA.out (fun h => by have := hFG.out _ h; omega); have b50 := blk_c x5 0; have b51 := blk_c x5 1; have b52 := blk_c x5 2; have HG5 := Kp.mk hg5; have HC5 := Kp.mk ((Chg.of_below HBA.out (FG p bm lm rm)).then hc5); have HV5 := HV.out.frame HC5.out (fun g hg hF => by have h1 := hFG.out _ hF; have h2 := HFv.out _ hg; omega); have HN5 := Kp.mk (HN.out.frame HC5.out (fun g' hg' hF => by have h1 := hFG.out _ hF; have h2 := HF.out _ hg'; omega)); clear x5 hg5 hc5)
            go_roundw
            case rel => exact ⟨k + 1, by omega, by go_num, ⟨by rw [HE.out]; exact HG5.out⟩, ⟨by rw [HT.out]; exact HV5⟩, HFv, HN5, ⟨HC.out.then HC5.out⟩⟩
            case measure => simp [intOf]; omega
        · rcases hcR with r1 | r1
          · have hi : isOf pid x = true := by rw [hbAll.out.1, a1, b1]; rfl
            have hte : tells pid x = true := by rw [hbAll.out.2, r1, b1, a2]; rfl
            have HE := Kp.mk (HEO.out hi)
            have HT : Kp (told pid ((ns.take (k + 1)).map (·.2)) = tl ++ [x]) := ⟨by rw [HTS.out, hi, hte]; rfl⟩
            clear hi hte
            go_wp2_with (first
              | (go_at_call 60; refine (out_any _ p bm lm rm (endN pid ns k) last nn x (HWA.out ▸ HGA.out) HMEM.out hla).mono ?_; rintro e w5 ⟨⟨v5, rfl⟩, hg5, hc5⟩; rw [← HWA.out] at hc5; have x5 := hc5.at XA.out (fun h => by have := hFG.out _ h; omega); have b50 := blk_c x5 0; have b51 := blk_c x5 1; have b52 := blk_c x5 2; have HG5 := Kp.mk hg5; have HC5 := Kp.mk ((Chg.of_below HBA.out (FG p bm lm rm)).then hc5); have HV5 := HV.out.frame HC5.out (fun g hg hF => by have h1 := hFG.out _ hF; have h2 := HFv.out _ hg; omega); have HN5 := Kp.mk (HN.out.frame HC5.out (fun g' hg' hF => by have h1 := hFG.out _ hF; have h2 := HF.out _ hg'; omega)); clear x5 hg5 hc5)
              | (at_builtin; refine app1_ev T27 x rfl _ _ rfl HV5 rfl rfl rfl (by simp) rfl (by omega) (by omega) ?_; intro A' n' c' w6 d0 d1 d2 d3; have D1 := Kp.mk d1; have D2 := Kp.mk d2; have D3 := Kp.mk d3; clear d0 d1 d2 d3))
            have hs6 : w.heap.size ≤ w5.heap.size := Nat.le_trans hsz HC5.out.size
            have hnf : ∀ g', (Value.slice A2 tl.length c2).ownBlock = some g' → ¬ FG p bm lm rm g' := fun g' hg' hF => by have h1 := hFG.out _ hF; have h2 := HFv.out _ hg'; omega
            go_roundw
            case rel =>
              refine ⟨k + 1, by omega, by go_num, ⟨?_⟩, ⟨?_⟩, ⟨?_⟩, ⟨?_⟩, ⟨?_⟩⟩
              · rw [HE.out]
                exact ⟨HG5.out.g.frame D2.out (fun g' hF hg' => hnf g' hg' hF), HG5.out.ok⟩
              · rw [HT.out]; exact D1.out
              · exact HFv.out.app hs6 D3.out
              · refine HN5.out.frame D2.out (fun g' hg' hF => ?_)
                obtain ⟨cur, hcur⟩ := HN5.out.blk' hg'
                exact HV5.ne hcur (by decide) hF
              · exact (HC.out.then HC5.out).trans D2.out (fun g' hg' hF => by have h2 := HFv.out _ hF; omega)
            case measure => simp [intOf]; omega
          · have hi : isOf pid x = true := by rw [hbAll.out.1, a1, b1]; rfl
            have hte : tells pid x = false := by rw [hbAll.out.2, r1, b1, a2]; rfl
            have HE := Kp.mk (HEO.out hi)
            have HT : Kp (told pid ((ns.take (k + 1)).map (·.2)) = tl) := ⟨by rw [HTS.out, hi, hte]; rfl⟩
            clear hi hte
            go_wp2_with (go_at_call 60; refine (out_any _ p bm lm rm (endN pid ns k) last nn x (HWA.out ▸ HGA.out) HMEM.out hla).mono ?_; rintro e w5 ⟨⟨v5, rfl⟩, hg5, hc5⟩; rw [← HWA.out] at hc5; have x5 := hc5.at XA.out (fun h => by have := hFG.out _ h; omega); have b50 := blk_c x5 0; have b51 := blk_c x5 1; have b52 := blk_c x5 2; have HG5 := Kp.mk hg5; have HC5 := Kp.mk ((Chg.of_below HBA.out (FG p bm lm rm)).then hc5); have HV5 := HV.out.frame HC5.out (fun g hg hF => by have h1 := hFG.out _ hF; have h2 := HFv.out _ hg; omega); have HN5 := Kp.mk (HN.out.frame HC5.out (fun g' hg' hF => by have h1 := hFG.out _ hF; have h2 := HF.out _ hg'; omega)); clear x5 hg5 hc5)
            go_roundw
            case rel => exact ⟨k + 1, by omega, by go_num, ⟨by rw [HE.out]; exact HG5.out⟩, ⟨by rw [HT.out]; exact HV5⟩, HFv, HN5, ⟨HC.out.then HC5.out⟩⟩
            case measure => simp [intOf]; omega
      · rcases hcB with ⟨b1, b2⟩ | ⟨b1, b2⟩
        · rcases hcR with r1 | r1
          · have hi : isOf pid x = true := by rw [hbAll.out.1, a1, b1]; rfl
            have hte : tells pid x = true := by rw [hbAll.out.2, r1, b1, a2]; rfl
            have HE := Kp.mk (HEO.out hi)
            have HT : Kp (told pid ((ns.take (k + 1)).map (·.2)) = tl ++ [x]) := ⟨by rw [HTS.out, hi, hte]; rfl⟩
            clear hi hte
            go_wp2_with (first
              | (go_at_call 60; refine (out_any _ p bm lm rm (endN pid ns k) last nn x (HWA.out ▸ HGA.out) HMEM.out hla).mono ?_; rintro e w5 ⟨⟨v5, rfl⟩, hg5, hc5⟩; rw [← HWA.out] at hc5; have x5 := hc5.at XA.out (fun h => by have := hFG.out _ h; omega); have b50 := blk_c x5 0; have b51 := blk_c x5 1; have b52 := blk_c x5 2; have HG5 := Kp.mk hg5; have HC5 := Kp.mk ((Chg.of_below HBA.out (FG p bm lm rm)).then hc5); have HV5 := HV.out.frame HC5.out (fun g hg hF => by have h1 := hFG.out _ hF; have h2 := HFv.out _ hg; omega); have HN5 := Kp.mk (HN.out.frame HC5.out (fun g' hg' hF => by have h1 := hFG.out _ hF; have h2 := HF.out _ hg'; omega)); clear x5 hg5 hc5)
              | (at_builtin; refine app1_ev T27 x rfl _ _ rfl HV5 rfl rfl rfl (by simp) rfl (by omega) (by omega) ?_; intro A' n' c' w6 d0 d1 d2 d3; have D1 := Kp.mk d1; have D2 := Kp.mk d2; have D3 := Kp.mk d3; clear d0 d1 d2 d3))
            have hs6 : w.heap.size ≤ w5.heap.size := Nat.le_trans hsz HC5.out.size
            have hnf : ∀ g', (Value.slice A2 tl.length c2).ownBlock = some g' → ¬ FG p bm lm rm g' := fun g' hg' hF => by have h1 := hFG.out _ hF; have h2 := HFv.out _ hg'; omega
            go_roundw
            case rel =>
              refine ⟨k + 1, by omega, by go_num, ⟨?_⟩, ⟨?_⟩, ⟨?_⟩, ⟨?_⟩, ⟨?_⟩⟩
              · rw [HE.out]
                exact ⟨HG5.out.g.frame D2.out (fun g' hF hg' => hnf g' hg' hF), HG5.out.ok⟩
              · rw [HT.out]; exact D1.out
              · exact HFv.out.app hs6 D3.out
              · refine HN5.out.frame D2.out (fun g' hg' hF => ?_)
                obtain ⟨cur, hcur⟩ := HN5.out.blk' hg'
                exact HV5.ne hcur (by decide) hF
              · exact (HC.out.then HC5.out).trans D2.out (fun g' hg' hF => by have h2 := HFv.out _ hF; omega)
            case measure => simp [intOf]; omega
          · have hi : isOf pid x = true := by rw [hbAll.out.1, a1, b1]; rfl
            have hte : tells pid x = true := by rw [hbAll.out.2, r1, b1, a2]; rfl
            have HE := Kp.mk (HEO.out hi)
            have HT : Kp (told pid ((ns.take (k + 1)).map (·.2)) = tl ++ [x]) := ⟨by rw [HTS.out, hi, hte]; rfl⟩
            clear hi hte
            go_wp2_with (first
              | (go_at_call 60; refine (out_any _ p bm lm rm (endN pid ns k) last nn x (HWA.out ▸ HGA.out) HMEM.out hla).mono ?_; rintro e w5 ⟨⟨v5, rfl⟩, hg5, hc5⟩; rw [← HWA.out] at hc5; have x5 := hc5.at XA.out (fun h => by have := hFG.out _ h; omega); have b50 := blk_c x5 0; have b51 := blk_c x5 1; have b52 := blk_c x5 2; have HG5 := Kp.mk hg5; have HC5 := Kp.mk ((Chg.of_below HBA.out (FG p bm lm rm)).then hc5); have HV5 := HV.out.frame HC5.out (fun g hg hF => by have h1 := hFG.out _ hF; have h2 := HFv.out _ hg; omega); have HN5 := Kp.mk (HN.out.frame HC5.out (fun g' hg' hF => by have h1 := hFG.out _ hF; have h2 := HF.out _ hg'; omega)); clear x5 hg5 hc5)
              | (at_builtin; refine app1_ev T27 x rfl _ _ rfl HV5 rfl rfl rfl (by simp) rfl (by omega) (by omega) ?_; intro A' n' c' w6 d0 d1 d2 d3; have D1 := Kp.mk d1; have D2 := Kp.mk d2; have D3 := Kp.mk d3; clear d0 d1 d2 d3))
            have hs6 : w.heap.size ≤ w5.heap.size := Nat.le_trans hsz HC5.out.size
            have hnf : ∀ g', (Value.slice A2 tl.length c2).ownBlock = some g' → ¬ FG p bm lm rm g' := fun g' hg' hF => by have h1 := hFG.out _ hF; have h2 := HFv.out _ hg'; omega
            go_roundw
            case rel =>
              refine ⟨k + 1, by omega, by go_num, ⟨?_⟩, ⟨?_⟩, ⟨?_⟩, ⟨?_⟩, ⟨?_⟩⟩
              · rw [HE.out]
                exact ⟨HG5.out.g.frame D2.out (fun g' hF hg' => hnf g' hg' hF), HG5.out.ok⟩
              · rw [HT.out]; exact D1.out
              · exact HFv.out.app hs6 D3.out
              · refine HN5.out.frame D2.out (fun g' hg' hF => ?_)
                obtain ⟨cur, hcur⟩ := HN5.out.blk' hg'
                exact HV5.ne hcur (by decide) hF
              · exact (HC.out.then HC5.out).trans D2.out (fun g' hg' hF => by have h2 := HFv.out _ hF; omega)
            case measure => simp [intOf]; omega
        · have hi : isOf pid x = false := by rw [hbAll.out.1, a1, b1]; rfl
          have HE := Kp.mk (HEK.out hi)
          have HT : Kp (told pid ((ns.take (k + 1)).map (·.2)) = tl) := ⟨by rw [HTS.out, hi]; rfl⟩
          clear hi
          go_wp2
          go_roundw
          case rel => exact ⟨k + 1, by omega, by go_num, ⟨by rw [HE.out, ← HWA.out]; exact HGA.out⟩, ⟨by rw [HT.out]; exact HV.out.alloc _⟩, HFv, ⟨HN.out.alloc _⟩, ⟨HC.out.alloc _⟩⟩
          case measure => simp [intOf]; omega
    · obtain rfl : k = m := by omega
      have hall : Kp ((ns.take k).map (·.2) = ns.map (·.2)) := ⟨by rw [List.take_of_length_le (by rw [HM.out]; exact Nat.le_refl _)]⟩
      have hle : Kp (endN pid ns k = leftN pid ns) := ⟨endN_all pid ns k (by rw [HM.out]; exact Nat.le_refl _)⟩
      go_wp2
      go_ret2
      exact ⟨_, rfl, by rw [← hall.out]; exact HV.out, HFv.out, HC.out, by rw [← hle.out]; exact HK.out⟩
end Go.Proofs.YtameidoaenoppaaGreatDoor
