/- What Group of package links tells: whom a process is linked with over any number of links, rising; for a graph whose last number is below 10^18. -/
import Derived.Test.YtlbbheopoflmjaaGp
import Derived.Test.YtlbbheopoflmjaaOwnO
namespace Go.Proofs.Ytlbbheopoflmjaa
open Go.RowKit

def bE (M : List Int) : List (Int × Value) := M.map fun x => (x, Value.bool true)
theorem look_bE (M : List Int) (x : Int) : look (bE M) x = if x ∈ M then some (.bool true) else none := by
  unfold look bE
  induction M with
  | nil => rfl
  | cons y M ih =>
    rw [List.map_cons, List.find?_cons]
    by_cases h : y = x
    · subst h; simp
    · simp only [h, decide_false, ih, List.mem_cons, show ¬ x = y from fun e => h e.symm, false_or]
theorem put_bE {M : List Int} {x : Int} (h : x ∉ M) : putE (bE M) x (.bool true) = bE (M ++ [x]) := by
  unfold putE
  rw [cut_none (by rw [look_bE, if_neg h])]
  simp [bE]
def GroupPost (w : World) (L : List Bd) (pid : Int) (e : Ending) (w' : World) : Prop := ∃ v S, e = .returned v ∧ Own w' 2 eI64 v S ∧ Fresh w v ∧ Below w.heap.size w w' ∧ if IsPid pid then SetOf S (Reach L pid) else S = []
def PeersC (w : World) (p : Nat) (L : List Bd) (x : Int) : Prop := Calls Try.prog 25 #[.pointer (some ⟨p, 0, none⟩), .int .i64 x] w fun e w' => ∃ v S, e = .returned v ∧ Own w' 2 eI64 v S ∧ Fresh w v ∧ Below w.heap.size w w' ∧ SetOf S (Nb L x)
theorem peersC (hs : SortC) {w : World} {p bm lm rm : Nat} {ns : List NB} {last : Int} (h : IsG w p bm lm rm ns last) (hla : last ≤ 1000000000000000000) (x : Int) : PeersC w p (ns.map (·.2)) x :=
  (peers_any hs h hla x).mono fun _ _ ⟨v, h1, h2, h3, h4⟩ => ⟨v, _, h1, h2, h3, h4, peers_set ns last x h.ok⟩
set_option maxHeartbeats 1000000 in
theorem group_nil (w : World) (pid : Int) : Calls Try.prog 23 #[.pointer none, .int .i64 pid] w fun e w' => e = .returned (.slice none 0 0) ∧ w = w' := by
  go_enter Try.func23, Try.ntmps23
  go_wp2
  go_ret
  exact ⟨rfl, rfl⟩
set_option maxHeartbeats 1000000 in
theorem group_bad (w : World) (p : Nat) (pid : Int) (h : decide (IsPid pid) = false) : Calls Try.prog 23 #[.pointer (some ⟨p, 0, none⟩), .int .i64 pid] w fun e w' => e = .returned (.slice none 0 0) ∧ w = w' := by
  go_enter Try.func23, Try.ntmps23
  go_wp2_with (go_at_call 32; refine (isPid_any _ pid).mono ?_; rintro e w' ⟨rfl, rfl⟩; rw [h])
  go_ret
  exact ⟨rfl, rfl⟩
set_option maxRecDepth 100000 in
set_option maxHeartbeats 8000000 in
theorem group_ok (hs : SortC) (w : World) (p bm lm rm : Nat) (ns : List NB) (last pid : Int) (h : IsG w p bm lm rm ns last) (hla : last ≤ 1000000000000000000) (hp : decide (IsPid pid) = true) :
    Calls Try.prog 23 #[.pointer (some ⟨p, 0, none⟩), .int .i64 pid] w (GroupPost w (ns.map (·.2)) pid) := by
  have hpid : IsPid pid := of_decide_eq_true hp
  have hp1 : 1 ≤ pid := hpid.1
  have hp2 : pid ≤ 1099511627776 := hpid.2
  have hmm := @run_makeMap Try.prog
  have okp : K2.ok pid := ok2 pid (by omega) (by omega)
  obtain ⟨w2, hr2, m2, c2⟩ := (isMap_made K2 w).put Try.underlying74 (by simp [maxLen]) pid (.bool true) okp
  have hr2' : (Instr.mapUpdate 74 (.map (some w.heap.size)) (.int .i64 pid) (.bool true)).run Try.prog (w.alloc (.map #[] 0)) = .ok () w2 := hr2
  have HG := Kp.mk h
  have M2 : Kp (IsMapV K2 w2 w.heap.size (bE [pid])) := ⟨m2⟩
  have C2 := Kp.mk c2
  have hB2 : Kp (Below w.heap.size w w2) := ⟨chg_below ((Below.refl _ _).alloc (Nat.le_refl _) _) c2 (fun g hg => by omega) (by simp)⟩
  have hsz2 : Kp (w.heap.size < w2.heap.size) := ⟨m2.lt⟩
  have HS := Kp.mk hs
  clear h okp hr2 m2 c2 hpid hs
  obtain ⟨L, hL⟩ : ∃ L, L = ns.map (·.2) := ⟨_, rfl⟩
  have hLl : L.length ≤ 1024 := by rw [hL, List.length_map]; exact HG.out.ok.len
  rw [← hL]
  have HL := Kp.mk hL
  have HPC : Kp (∀ W x, Below w.heap.size w W → PeersC W p L x) := ⟨fun W x hb => by rw [hL]; exact peersC HS.out (HG.out.below hb) hla x⟩
  clear hL
  go_enter Try.func23, Try.ntmps23
  go_wp2_with (go_at_call 32; refine (isPid_any _ pid).mono ?_; rintro e w' ⟨rfl, rfl⟩; rw [hp])
  go_loopg [6] (2 + 2 * L.length) (fun gk v wr => ∃ M T, gk + M.length = 1 + 2 * L.length + T.length + 1 ∧ T.length ≤ M.length ∧ Kp (Bfs L pid M T) ∧ Kp (OwnO wr 2 eI64 v T) ∧ Kp (Fresh w v) ∧ Kp (IsMapV K2 wr w.heap.size (bE M)) ∧ Kp (Below w.heap.size w wr))
  case atStart =>
    refine ⟨[pid], [pid], by simp; omega, by simp, ⟨Bfs.start L pid⟩, ⟨OwnO.new _ _ _ rfl _ _ rfl⟩, ⟨fun g hg => ?_⟩, ⟨M2.out.frame ((Chg.refl NoF _).alloc _) (fun h => h)⟩, ⟨hB2.out.alloc (by have := hsz2.out; omega) _⟩⟩
    cases hg
    exact Nat.le_of_lt hsz2.out
  case round =>
    obtain ⟨M, T, hgk, hTM, HBf, HO, HF, HM, HB⟩ := hrel
    cases T with
    | nil =>
      obtain ⟨_, g, o, c, cur, hv, _⟩ := HO.out
      rw [List.length_nil] at hv
      subst hv
      have HD := Kp.mk HBf.out.done
      have HMl := Kp.mk HBf.out.len
      obtain ⟨w1, hr1, hrg, hb1, hz1⟩ := HM.out.range Try.underlying74
      have HRG := Kp.mk hrg
      have HB1 := Kp.mk hb1
      have HZ1 := Kp.mk hz1
      have HBE : Kp ((bE M).map (·.1) = M) := ⟨by unfold bE; rw [List.map_map]; exact (List.map_congr_left (fun _ _ => rfl)).trans (List.map_id M)⟩
      have hbm : w.heap.size < wr.heap.size := HM.out.lt
      clear hrg hb1 hz1 hr2'
      obtain ⟨wo, rfl⟩ : ∃ wo : World, wo = wr := ⟨_, rfl⟩
      go_wp2_with fail
      go_loopw [10, 11] (fun v _ wr => ∃ seen, Kp (RangeV K2 wr w.heap.size wo.heap.size (bE M) seen) ∧ Kp (Own wr 2 eI64 v seen) ∧ Kp (Fresh wo v) ∧ Kp (Below wo.heap.size wo wr) ∧ Kp (wo.heap.size < wr.heap.size)) (fun _ _ wr => wr.rangeLeft w.heap.size wo.heap.size)
      case atStart => exact ⟨[], HRG, ⟨Own.nil _ _ _⟩, ⟨Fresh.nil _ _ _⟩, HB1, ⟨by have := HZ1.out; omega⟩⟩
      case round =>
        obtain ⟨seen, HR, HOs, HFs, HBs, HWs⟩ := hrel
        have hsl : seen.length ≤ 3000 := by
          have h1 := HR.out.len
          have h2 := HMl.out
          simp only [bE, List.length_map] at h1
          omega
        rcases HR.out.next 0 with ⟨hperm, hr⟩ | ⟨x, v, w4, hok, hlk, hns, hr, hrng, hchg, hsz, hen, hlt⟩
        · have hpm : Kp (seen.Perm M) := ⟨by have := hperm; rwa [HBE.out] at this⟩
          have hnd := Kp.mk HR.out.nodup
          clear hperm
          go_wp2_with (go_at_call 44; refine (HS.out _ _ _ HOs.out (by omega)).mono ?_; rintro e w5 ⟨rfl, ho5, hc5⟩; have HO5 := Kp.mk ho5; have HC5 := Kp.mk hc5; clear ho5 hc5)
          go_ret
          refine ⟨_, srt seen, rfl, HO5.out, HFs.out.up HB.out.size, ?_, ?_⟩
          · exact bstep HB.out HB.out.size (chg_below HBs.out HC5.out (fun g' hg' => HFs.out g' hg') HBs.out.size)
          · rw [if_pos (show IsPid pid from ⟨hp1, hp2⟩)]
            exact (srt_set hnd.out).imp (fun y => (hpm.out.mem_iff).trans (HD.out y))
        · have hen' : (Instr.entry (.pointer (some ⟨wo.heap.size, 0, none⟩))).run Try.prog w4 = .ok (.tuple #[.int .i64 x, v]) w4 := hen
          have hr' : (Instr.next (.pointer (some ⟨wo.heap.size, 0, none⟩)) false 0).run Try.prog wr = .ok (.tuple #[.bool true, .int .i64 x, v]) w4 := hr
          obtain ⟨A, c9, hv9, _⟩ := HOs.out.shape
          subst hv9
          have hne := HR.out.ne HOs.out
          have ho2 : Own w4 2 eI64 (.slice A seen.length c9) seen := HOs.out.frame hchg (fun g hg e => hne (by rw [hg, e]))
          have HN2 := Kp.mk hrng
          have HSZ := Kp.mk hsz
          have HLT := Kp.mk hlt
          have HNE := Kp.mk hne
          have hb2 : Below wo.heap.size wo w4 := chg_below HBs.out hchg (fun g hg => by omega) HBs.out.size
          have HB2 := Kp.mk hb2
          clear hrng hchg hsz hlt hok hlk hns hr hen hb2 hne
          go_wp2_with (at_builtin; refine app1_ev T50 x rfl _ _ rfl ho2 rfl rfl rfl (by simp) rfl (by omega) (by omega) ?_; intro A' n' c' w3 a0 a1 a2 a3; have A1 := Kp.mk a1; have A2 := Kp.mk a2; have A3 := Kp.mk a3; clear a0 a1 a2 a3)
          go_roundw
          case rel =>
            refine ⟨seen ++ [x], ⟨HN2.out.frame A2.out (fun h => ?_) (fun h => ?_)⟩, A1, ⟨?_⟩, ⟨?_⟩, ⟨?_⟩⟩
            · have := HFs.out _ h; omega
            · exact HNE.out h
            · exact (HFs.out).app (by have := HB2.out.size; exact this) A3.out
            · exact chg_below HB2.out A2.out (fun g hg => HFs.out g hg) HB2.out.size
            · have := A2.out.size; have := HSZ.out; have := HWs.out; omega
          case measure =>
            have e := HN2.out.left A2.out (fun h => by have := HFs.out _ h; omega) (fun h => HNE.out h)
            have := HLT.out
            rw [e]
            exact this
    | cons x T =>
      obtain ⟨g, o, c, hv, hq, hlc, hcm⟩ := HO.out.at 0 (by simp)
      subst hv
      have hq' : wr.cell? ⟨g, o, none⟩ = some (.int .i64 x) := by simpa [eI64] using hq
      have hgw : w.heap.size ≤ g := HF.out g rfl
      obtain ⟨nT, hnT⟩ : ∃ nT, nT = T.length := ⟨_, rfl⟩
      have HTn := Kp.mk hnT
      rw [List.length_cons, ← hnT] at hlc HF HO ⊢
      have hc1 : 1 ≤ c := by omega
      unfold maxLen at hcm
      by_cases hcc : 1 < c
      · have HTT : Kp (OwnO wr 2 eI64 (.slice (some ⟨g, o + 1, none⟩) nT (c - 1)) T) := ⟨by have := HO.out.tail hcc; rwa [← hnT] at this⟩
        have HFT : Kp (Fresh w (.slice (some ⟨g, o + 1, none⟩) nT (c - 1))) := ⟨fun g' hg' => by cases hg'; exact hgw⟩
        obtain ⟨wo, rfl⟩ : ∃ wo : World, wo = wr := ⟨_, rfl⟩
        clear hq hnT HO HF
        go_wp2_with (go_at_call 25; refine (HPC.out wo x HB.out).mono ?_; rintro e w3 ⟨v, S, rfl, hS, hSf, hSb, hSS⟩; obtain ⟨AS, cS, hv, hcS, hmS, hs0, hs1⟩ := hS.shape; subst hv)
        obtain ⟨m, hm⟩ : ∃ m, m = S.length := ⟨_, rfl⟩
        rw [← hm] at hcS hS hSf ⊢
        have hSl : m ≤ 3000 := by
          have := nodup_len hSS.nodup (m := uni L pid) (fun y hy => Nb.uni pid ((hSS.2 y).1 hy))
          rw [uni_len] at this
          omega
        have HSM := Kp.mk hm
        have HSO := Kp.mk hS
        have HSF := Kp.mk hSf
        have HSB := Kp.mk hSb
        have HSS := Kp.mk hSS
        have HSN := Kp.mk hSS.nodup
        have HS0 := Kp.mk hs0
        have HS1 := Kp.mk hs1
        have hw3 : wo.heap.size ≤ w3.heap.size := hSb.size
        have HTM := Kp.mk HBf.out.len
        have hB3 : Kp (Below w.heap.size w w3) := ⟨bstep HB.out HB.out.size hSb⟩
        have hne3 : Kp (∀ g', (Value.slice AS m cS).ownBlock = some g' → (Value.slice (some ⟨g, o + 1, none⟩) nT (c - 1)).ownBlock ≠ some g') := ⟨fun g' hg' e => by
          cases e
          have h1 := hSf g hg'
          have h2 := lt_of_block (HTT.out.blk' (g := g) rfl).choose_spec
          omega⟩
        clear hm hS hSf hSb hSS hs0 hs1 hmS
        go_loopw [6, 9, 36] (fun v _ i wi => ∃ (j : Nat), j ≤ m ∧ i = .int .i64 j ∧ Kp (OwnO wi 2 eI64 v (T ++ news M (S.take j))) ∧ Kp (Fresh w v) ∧ Kp (IsMapV K2 wi w.heap.size (bE (M ++ news M (S.take j)))) ∧ Kp (Own wi 2 eI64 (.slice AS m cS) S) ∧ Kp (∀ g', (Value.slice AS m cS).ownBlock = some g' → v.ownBlock ≠ some g') ∧ Kp (Below w.heap.size w wi)) (fun _ _ i _ => m - (intOf i).toNat)
        case atStart => exact ⟨0, Nat.zero_le _, rfl, ⟨by simpa [news] using HTT.out.below HSB.out⟩, HFT, ⟨by simpa [news] using HM.out.below HSB.out⟩, HSO, hne3, hB3⟩
        case round =>
          obtain ⟨j, hj, rfl, HOj, HFj, HMj, HSj, HNj, HBj⟩ := hrel
          by_cases hlt : j < m
          · have hjS : j < S.length := by rw [← HSM.out]; exact hlt
            obtain ⟨gs, rfl⟩ : ∃ gs, AS = some ⟨gs, 0, none⟩ := by
              cases AS with
              | none => have h1 := (HS0.out rfl).1; rw [h1] at hjS; simp at hjS
              | some y => obtain ⟨gs, rfl⟩ := HS1.out y rfl; exact ⟨gs, rfl⟩
            obtain ⟨q, hq⟩ : ∃ q, q = S[j] := ⟨_, rfl⟩
            have hcq : wr.cell? ⟨gs, j, none⟩ = some (.int .i64 q) := by
              have h1 := HSj.out.elem j 0 hjS (by decide)
              rw [hq]; simpa [eI64] using h1
            have j0 : (0 : Int) ≤ (j : Int) := by omega
            have j1 : (j : Int) < (m : Int) := by omega
            have hqb : IsPid q := by
              have h1 := (HSS.out.2 q).1 (by rw [hq]; exact List.getElem_mem hjS)
              obtain ⟨b, hb, _, h2⟩ := h1
              rw [HL.out] at hb
              obtain ⟨z, hz, rfl⟩ := List.mem_map.1 hb
              have hgd := HG.out.ok.good z hz
              rcases h2 with ⟨_, h2⟩ | ⟨_, h2⟩
              · rw [h2]; exact hgd.2.1
              · rw [h2]; exact hgd.1
            have okq : K2.ok q := ok2 q (by have := hqb.1; omega) (by have := hqb.2; omega)
            have hlk := HMj.out.get Try.underlying74 (Try.zeroValue4 wr) q okq
            have hnm := news_mem (M := M) HSN.out j hjS
            have hns := news_snoc M S j hjS
            rw [← hq] at hnm hns
            rw [look_bE] at hlk
            by_cases hqM : q ∈ M
            · rw [if_pos (hnm.2 hqM)] at hlk
              have hlk' : (Instr.lookup 74 (.map (some w.heap.size)) (.int .i64 q) false).run Try.prog wr = .ok (.bool true) wr := hlk
              rw [if_pos hqM] at hns
              have HNS := Kp.mk hns
              clear hlk hnm hqM hq okq hqb hns
              go_wp2_with fail
              go_roundw
              case rel => exact ⟨j + 1, by omega, by go_num, by rw [HNS.out]; exact HOj, HFj, by rw [HNS.out]; exact HMj, HSj, HNj, HBj⟩
              case measure => simp [intOf]; omega
            · rw [if_neg (fun h => hqM (hnm.1 h))] at hlk
              have hlk' : (Instr.lookup 74 (.map (some w.heap.size)) (.int .i64 q) false).run Try.prog wr = .ok (.bool false) wr := hlk
              rw [if_neg hqM] at hns
              have hML : (bE (M ++ news M (S.take j))).length < maxLen := by
                have h1 := HTM.out
                have h2 : (news M (S.take j)).length ≤ m := by
                  have := List.length_filter_le (fun y => decide (y ∉ M)) (S.take j)
                  rw [List.length_take] at this
                  unfold news
                  omega
                simp only [bE, List.length_map, List.length_append, maxLen]
                omega
              have hTL : (T ++ news M (S.take j)).length ≤ 3000000 := by
                have h2 : (news M (S.take j)).length ≤ m := by
                  have := List.length_filter_le (fun y => decide (y ∉ M)) (S.take j)
                  rw [List.length_take] at this
                  unfold news
                  omega
                have h3 : (x :: T).length = T.length + 1 := rfl
                have h4 := HTM.out
                rw [List.length_append]
                omega
              obtain ⟨w5, hr5, m5, c5⟩ := HMj.out.put Try.underlying74 hML q (.bool true) okq
              have hr5' : (Instr.mapUpdate 74 (.map (some w.heap.size)) (.int .i64 q) (.bool true)).run Try.prog wr = .ok () w5 := hr5
              rw [put_bE (fun h => hqM (hnm.1 h)), List.append_assoc, ← hns] at m5
              have hmb : ∀ g', (∃ cur, wr.heap[g']? = some (.cells cur 2 (0, 0))) → g' ≠ w.heap.size := by
                rintro g' ⟨cur, hcur⟩ rfl
                obtain ⟨a, cc, hb⟩ := HMj.out.blk
                rw [hcur] at hb
                cases hb
              obtain ⟨g6, o6, c6, hv6, _, hlc6, hcm6⟩ : ∃ g6 o6 c6, u6 = .slice (some ⟨g6, o6, none⟩) (T ++ news M (S.take j)).length c6 ∧ True ∧ (T ++ news M (S.take j)).length ≤ c6 ∧ c6 ≤ maxLen := by
                obtain ⟨_, g6, o6, c6, cur, hv, _, _, h3, h4, _⟩ := HOj.out
                exact ⟨g6, o6, c6, hv, trivial, h4, h3⟩
              subst hv6
              obtain ⟨nj, hnj⟩ : ∃ nj, nj = (T ++ news M (S.take j)).length := ⟨_, rfl⟩
              rw [← hnj] at hTL HOj HFj HNj hlc6 ⊢
              have HO5 := HOj.out.frame c5 (fun g' hg' e => hmb g' (HOj.out.blk' hg') e)
              have HS5 := HSj.out.frame c5 (fun g' hg' e => hmb g' (HSj.out.blk' hg') e)
              have HM5 := Kp.mk m5
              have HB5 : Kp (Below w.heap.size w w5) := ⟨chg_below HBj.out c5 (fun g' e => by omega) HBj.out.size⟩
              have hls : nj = (T ++ news M (S.take j)).length := hnj
              have HNJ := Kp.mk hnj
              have HNS := Kp.mk hns
              have HO5' := Kp.mk HO5
              have HS5' := Kp.mk HS5
              clear hlk hnm hqM hq okq hqb hns hML hr5 m5 c5 hmb HS5 hnj
              go_wp2_with (at_builtin; refine appO_ev T50 q rfl _ _ rfl HO5 rfl rfl rfl (by simp) rfl (by rw [← HNJ.out]; omega) (by rw [← HNJ.out]; omega) ?_; intro g7 o7 n7 c7 w6 d0 d1 d2 d3; have D1 := Kp.mk d1; have D2 := Kp.mk d2; have D3 := Kp.mk d3; clear d1 d2 d3)
              go_roundw
              case rel =>
                refine ⟨j + 1, by omega, by go_num, ⟨?_⟩, ⟨?_⟩, ⟨?_⟩, ⟨?_⟩, ⟨?_⟩, ⟨?_⟩⟩
                · rw [HNS.out, ← List.append_assoc]; exact D1.out
                · exact HFj.out.app HB5.out.size D3.out
                · refine HM5.out.frame D2.out (fun e => ?_)
                  obtain ⟨cur, hcur⟩ := HO5'.out.blk' e
                  obtain ⟨a, cc, hb⟩ := HM5.out.blk
                  rw [hcur] at hb
                  cases hb
                · exact HS5'.out.frame D2.out (fun g' hg' e => HNj.out g' hg' e)
                · intro g' hg' e
                  rcases D3.out with h | ⟨g'', h, h2⟩
                  · exact HNj.out g' hg' (h ▸ e)
                  · rw [h] at e; cases e
                    obtain ⟨cur, hcur⟩ := HS5'.out.blk' hg'
                    have := lt_of_block hcur
                    omega
                · exact chg_below HB5.out D2.out (fun g' hg' => HFj.out g' hg') HB5.out.size
              case measure => simp [intOf]; omega
          · obtain rfl : j = m := by omega
            have hall : S.take j = S := List.take_of_length_le (by rw [HSM.out]; exact Nat.le_refl _)
            rw [hall] at HOj HMj
            have HBN := Kp.mk (HBf.out.step HSS.out)
            clear hall
            go_wp2_with fail
            go_roundg (1 + 2 * L.length + (T ++ news M S).length + 1 - (M ++ news M S).length)
            case rel =>
              have := HBN.out.len
              have h3 : (T ++ news M S).length = T.length + (news M S).length := List.length_append
              have h4 : (M ++ news M S).length = M.length + (news M S).length := List.length_append
              have h5 : (x :: T).length = T.length + 1 := rfl
              exact ⟨M ++ news M S, T ++ news M S, by omega, by omega, HBN, HOj, HFj, HMj, HBj⟩
            case measure =>
              have h2 := HBN.out.len
              have h3 : (T ++ news M S).length = T.length + (news M S).length := List.length_append
              have h4 : (M ++ news M S).length = M.length + (news M S).length := List.length_append
              have h5 : (x :: T).length = T.length + 1 := rfl
              omega
      · obtain ⟨hT0, hO0⟩ := HO.out.tail0 hcc
        have hn0 : nT = 0 := by rw [hnT, hT0]; rfl
        subst hn0
        have HTE := Kp.mk hT0
        obtain rfl : c = 1 := by omega
        have hO1 : OwnO wr 2 eI64 (.slice (some ⟨g, o, none⟩) 0 0) T := by rw [hT0]; exact hO0
        clear hT0 hO0 hcc
        have HTT : Kp (OwnO wr 2 eI64 (.slice (some ⟨g, o, none⟩) 0 0) T) := ⟨hO1⟩
        have HFT : Kp (Fresh w (.slice (some ⟨g, o, none⟩) 0 0)) := ⟨fun g' hg' => by cases hg'; exact hgw⟩
        obtain ⟨wo, rfl⟩ : ∃ wo : World, wo = wr := ⟨_, rfl⟩
        clear hq hnT HO HF hO1
        go_wp2_with (go_at_call 25; refine (HPC.out wo x HB.out).mono ?_; rintro e w3 ⟨v, S, rfl, hS, hSf, hSb, hSS⟩; obtain ⟨AS, cS, hv, hcS, hmS, hs0, hs1⟩ := hS.shape; subst hv)
        obtain ⟨m, hm⟩ : ∃ m, m = S.length := ⟨_, rfl⟩
        rw [← hm] at hcS hS hSf ⊢
        have hSl : m ≤ 3000 := by
          have := nodup_len hSS.nodup (m := uni L pid) (fun y hy => Nb.uni pid ((hSS.2 y).1 hy))
          rw [uni_len] at this
          omega
        have HSM := Kp.mk hm
        have HSO := Kp.mk hS
        have HSF := Kp.mk hSf
        have HSB := Kp.mk hSb
        have HSS := Kp.mk hSS
        have HSN := Kp.mk hSS.nodup
        have HS0 := Kp.mk hs0
        have HS1 := Kp.mk hs1
        have hw3 : wo.heap.size ≤ w3.heap.size := hSb.size
        have HTM := Kp.mk HBf.out.len
        have hB3 : Kp (Below w.heap.size w w3) := ⟨bstep HB.out HB.out.size hSb⟩
        have hne3 : Kp (∀ g', (Value.slice AS m cS).ownBlock = some g' → (Value.slice (some ⟨g, o, none⟩) 0 0).ownBlock ≠ some g') := ⟨fun g' hg' e => by
          cases e
          have h1 := hSf g hg'
          have h2 := lt_of_block (HTT.out.blk' (g := g) rfl).choose_spec
          omega⟩
        clear hm hS hSf hSb hSS hs0 hs1 hmS
        go_loopw [6, 9, 36] (fun v _ i wi => ∃ (j : Nat), j ≤ m ∧ i = .int .i64 j ∧ Kp (OwnO wi 2 eI64 v (T ++ news M (S.take j))) ∧ Kp (Fresh w v) ∧ Kp (IsMapV K2 wi w.heap.size (bE (M ++ news M (S.take j)))) ∧ Kp (Own wi 2 eI64 (.slice AS m cS) S) ∧ Kp (∀ g', (Value.slice AS m cS).ownBlock = some g' → v.ownBlock ≠ some g') ∧ Kp (Below w.heap.size w wi)) (fun _ _ i _ => m - (intOf i).toNat)
        case atStart => exact ⟨0, Nat.zero_le _, rfl, ⟨by simpa [news] using HTT.out.below HSB.out⟩, HFT, ⟨by simpa [news] using HM.out.below HSB.out⟩, HSO, hne3, hB3⟩
        case round =>
          obtain ⟨j, hj, rfl, HOj, HFj, HMj, HSj, HNj, HBj⟩ := hrel
          by_cases hlt : j < m
          · have hjS : j < S.length := by rw [← HSM.out]; exact hlt
            obtain ⟨gs, rfl⟩ : ∃ gs, AS = some ⟨gs, 0, none⟩ := by
              cases AS with
              | none => have h1 := (HS0.out rfl).1; rw [h1] at hjS; simp at hjS
              | some y => obtain ⟨gs, rfl⟩ := HS1.out y rfl; exact ⟨gs, rfl⟩
            obtain ⟨q, hq⟩ : ∃ q, q = S[j] := ⟨_, rfl⟩
            have hcq : wr.cell? ⟨gs, j, none⟩ = some (.int .i64 q) := by
              have h1 := HSj.out.elem j 0 hjS (by decide)
              rw [hq]; simpa [eI64] using h1
            have j0 : (0 : Int) ≤ (j : Int) := by omega
            have j1 : (j : Int) < (m : Int) := by omega
            have hqb : IsPid q := by
              have h1 := (HSS.out.2 q).1 (by rw [hq]; exact List.getElem_mem hjS)
              obtain ⟨b, hb, _, h2⟩ := h1
              rw [HL.out] at hb
              obtain ⟨z, hz, rfl⟩ := List.mem_map.1 hb
              have hgd := HG.out.ok.good z hz
              rcases h2 with ⟨_, h2⟩ | ⟨_, h2⟩
              · rw [h2]; exact hgd.2.1
              · rw [h2]; exact hgd.1
            have okq : K2.ok q := ok2 q (by have := hqb.1; omega) (by have := hqb.2; omega)
            have hlk := HMj.out.get Try.underlying74 (Try.zeroValue4 wr) q okq
            have hnm := news_mem (M := M) HSN.out j hjS
            have hns := news_snoc M S j hjS
            rw [← hq] at hnm hns
            rw [look_bE] at hlk
            by_cases hqM : q ∈ M
            · rw [if_pos (hnm.2 hqM)] at hlk
              have hlk' : (Instr.lookup 74 (.map (some w.heap.size)) (.int .i64 q) false).run Try.prog wr = .ok (.bool true) wr := hlk
              rw [if_pos hqM] at hns
              have HNS := Kp.mk hns
              clear hlk hnm hqM hq okq hqb hns
              go_wp2_with fail
              go_roundw
              case rel => exact ⟨j + 1, by omega, by go_num, by rw [HNS.out]; exact HOj, HFj, by rw [HNS.out]; exact HMj, HSj, HNj, HBj⟩
              case measure => simp [intOf]; omega
            · rw [if_neg (fun h => hqM (hnm.1 h))] at hlk
              have hlk' : (Instr.lookup 74 (.map (some w.heap.size)) (.int .i64 q) false).run Try.prog wr = .ok (.bool false) wr := hlk
              rw [if_neg hqM] at hns
              have hML : (bE (M ++ news M (S.take j))).length < maxLen := by
                have h1 := HTM.out
                have h2 : (news M (S.take j)).length ≤ m := by
                  have := List.length_filter_le (fun y => decide (y ∉ M)) (S.take j)
                  rw [List.length_take] at this
                  unfold news
                  omega
                simp only [bE, List.length_map, List.length_append, maxLen]
                omega
              have hTL : (T ++ news M (S.take j)).length ≤ 3000000 := by
                have h2 : (news M (S.take j)).length ≤ m := by
                  have := List.length_filter_le (fun y => decide (y ∉ M)) (S.take j)
                  rw [List.length_take] at this
                  unfold news
                  omega
                have h3 : (x :: T).length = T.length + 1 := rfl
                have h4 := HTM.out
                rw [List.length_append]
                omega
              obtain ⟨w5, hr5, m5, c5⟩ := HMj.out.put Try.underlying74 hML q (.bool true) okq
              have hr5' : (Instr.mapUpdate 74 (.map (some w.heap.size)) (.int .i64 q) (.bool true)).run Try.prog wr = .ok () w5 := hr5
              rw [put_bE (fun h => hqM (hnm.1 h)), List.append_assoc, ← hns] at m5
              have hmb : ∀ g', (∃ cur, wr.heap[g']? = some (.cells cur 2 (0, 0))) → g' ≠ w.heap.size := by
                rintro g' ⟨cur, hcur⟩ rfl
                obtain ⟨a, cc, hb⟩ := HMj.out.blk
                rw [hcur] at hb
                cases hb
              obtain ⟨g6, o6, c6, hv6, _, hlc6, hcm6⟩ : ∃ g6 o6 c6, u6 = .slice (some ⟨g6, o6, none⟩) (T ++ news M (S.take j)).length c6 ∧ True ∧ (T ++ news M (S.take j)).length ≤ c6 ∧ c6 ≤ maxLen := by
                obtain ⟨_, g6, o6, c6, cur, hv, _, _, h3, h4, _⟩ := HOj.out
                exact ⟨g6, o6, c6, hv, trivial, h4, h3⟩
              subst hv6
              obtain ⟨nj, hnj⟩ : ∃ nj, nj = (T ++ news M (S.take j)).length := ⟨_, rfl⟩
              rw [← hnj] at hTL HOj HFj HNj hlc6 ⊢
              have HO5 := HOj.out.frame c5 (fun g' hg' e => hmb g' (HOj.out.blk' hg') e)
              have HS5 := HSj.out.frame c5 (fun g' hg' e => hmb g' (HSj.out.blk' hg') e)
              have HM5 := Kp.mk m5
              have HB5 : Kp (Below w.heap.size w w5) := ⟨chg_below HBj.out c5 (fun g' e => by omega) HBj.out.size⟩
              have hls : nj = (T ++ news M (S.take j)).length := hnj
              have HNJ := Kp.mk hnj
              have HNS := Kp.mk hns
              have HO5' := Kp.mk HO5
              have HS5' := Kp.mk HS5
              clear hlk hnm hqM hq okq hqb hns hML hr5 m5 c5 hmb HS5 hnj
              go_wp2_with (at_builtin; refine appO_ev T50 q rfl _ _ rfl HO5 rfl rfl rfl (by simp) rfl (by rw [← HNJ.out]; omega) (by rw [← HNJ.out]; omega) ?_; intro g7 o7 n7 c7 w6 d0 d1 d2 d3; have D1 := Kp.mk d1; have D2 := Kp.mk d2; have D3 := Kp.mk d3; clear d1 d2 d3)
              go_roundw
              case rel =>
                refine ⟨j + 1, by omega, by go_num, ⟨?_⟩, ⟨?_⟩, ⟨?_⟩, ⟨?_⟩, ⟨?_⟩, ⟨?_⟩⟩
                · rw [HNS.out, ← List.append_assoc]; exact D1.out
                · exact HFj.out.app HB5.out.size D3.out
                · refine HM5.out.frame D2.out (fun e => ?_)
                  obtain ⟨cur, hcur⟩ := HO5'.out.blk' e
                  obtain ⟨a, cc, hb⟩ := HM5.out.blk
                  rw [hcur] at hb
                  cases hb
                · exact HS5'.out.frame D2.out (fun g' hg' e => HNj.out g' hg' e)
                · intro g' hg' e
                  rcases D3.out with h | ⟨g'', h, h2⟩
                  · exact HNj.out g' hg' (h ▸ e)
                  · rw [h] at e; cases e
                    obtain ⟨cur, hcur⟩ := HS5'.out.blk' hg'
                    have := lt_of_block hcur
                    omega
                · exact chg_below HB5.out D2.out (fun g' hg' => HFj.out g' hg') HB5.out.size
              case measure => simp [intOf]; omega
          · obtain rfl : j = m := by omega
            have hall : S.take j = S := List.take_of_length_le (by rw [HSM.out]; exact Nat.le_refl _)
            rw [hall] at HOj HMj
            have HBN := Kp.mk (HBf.out.step HSS.out)
            clear hall
            go_wp2_with fail
            go_roundg (1 + 2 * L.length + (T ++ news M S).length + 1 - (M ++ news M S).length)
            case rel =>
              have := HBN.out.len
              have h3 : (T ++ news M S).length = T.length + (news M S).length := List.length_append
              have h4 : (M ++ news M S).length = M.length + (news M S).length := List.length_append
              have h5 : (x :: T).length = T.length + 1 := rfl
              exact ⟨M ++ news M S, T ++ news M S, by omega, by omega, HBN, HOj, HFj, HMj, HBj⟩
            case measure =>
              have h2 := HBN.out.len
              have h3 : (T ++ news M S).length = T.length + (news M S).length := List.length_append
              have h4 : (M ++ news M S).length = M.length + (news M S).length := List.length_append
              have h5 : (x :: T).length = T.length + 1 := rfl
              omega
end Go.Proofs.Ytlbbheopoflmjaa
