/- wrong of package signal walked; bounds stand in the statement. -/
import Derived.Test.YtameidoaenoppaaGreatDoorWa
import Derived.Test.YtameidoaenoppaaGreatDoorLRl
namespace Go.Proofs.YtameidoaenoppaaGreatDoor
open Go.RowKit

def pids (ds : List Dth) : List Int := ds.map Dth.p
/-- What can not be spread. -/
def wrongE (live traps : List Int) (ds : List Dth) : Int :=
  if badP live = true ∨ badP traps = true ∨ badP (pids ds) = true then 1 else
  match ds.find? (fun d => decide ((rightE d.r).1 ≠ 0)) with
  | some d => (rightE d.r).1
  | none => if ¬ (pids ds).Nodup then 6 else if ∃ d ∈ ds, d.p ∉ live then 131 else 0
section
variable {live traps : List Int} {ds : List Dth}
theorem wrongE_1 (h : badP live = true ∨ badP traps = true ∨ badP (pids ds) = true) : wrongE live traps ds = 1 := by unfold wrongE; rw [if_pos h]
theorem wrongE_2 (h1 : ¬ (badP live = true ∨ badP traps = true ∨ badP (pids ds) = true)) {k : Nat} {d : Dth} (hd : ds[k]? = some d) (he : (rightE d.r).1 ≠ 0) (hj : ∀ (j : Nat) d', j < k → ds[j]? = some d' → (rightE d'.r).1 = 0) : wrongE live traps ds = (rightE d.r).1 := by
  unfold wrongE
  rw [if_neg h1]
  have : ds.find? (fun d => decide ((rightE d.r).1 ≠ 0)) = some d := by
    rw [List.find?_eq_some_iff_getElem]
    obtain ⟨hk, hke⟩ := List.getElem?_eq_some_iff.1 hd
    refine ⟨by simpa using he, k, hk, hke, fun j hjk => ?_⟩
    have := hj j ds[j] hjk (List.getElem?_eq_getElem _)
    simpa using this
  rw [this]
theorem wrongE_3 (h1 : ¬ (badP live = true ∨ badP traps = true ∨ badP (pids ds) = true)) (h2 : ∀ d ∈ ds, (rightE d.r).1 = 0) : wrongE live traps ds = if ¬ (pids ds).Nodup then 6 else if ∃ d ∈ ds, d.p ∉ live then 131 else 0 := by
  unfold wrongE
  rw [if_neg h1]
  have : ds.find? (fun d => decide ((rightE d.r).1 ≠ 0)) = none := by
    rw [List.find?_eq_none]
    intro d hd
    simpa using h2 d hd
  rw [this]
theorem wrongE_ok (h : wrongE live traps ds = 0) : badP live = false ∧ badP traps = false ∧ badP (pids ds) = false ∧ (∀ d ∈ ds, (rightE d.r).1 = 0) ∧ (pids ds).Nodup ∧ ∀ d ∈ ds, d.p ∈ live := by
  by_cases h1 : badP live = true ∨ badP traps = true ∨ badP (pids ds) = true
  · rw [wrongE_1 h1] at h; exact absurd h (by decide)
  · by_cases h2 : ∀ d ∈ ds, (rightE d.r).1 = 0
    · rw [wrongE_3 h1 h2] at h
      rw [not_or, not_or] at h1
      refine ⟨by simpa using h1.1, by simpa using h1.2.1, by simpa using h1.2.2, h2, ?_⟩
      by_cases h3 : (pids ds).Nodup
      · rw [if_neg (fun k => k h3)] at h
        by_cases h4 : ∃ d ∈ ds, d.p ∉ live
        · rw [if_pos h4] at h; exact absurd h (by decide)
        · exact ⟨h3, fun d hd => Classical.byContradiction fun hn => h4 ⟨d, hd, hn⟩⟩
      · rw [if_pos h3] at h; exact absurd h (by decide)
    · exfalso
      cases hf : ds.find? (fun d => decide ((rightE d.r).1 ≠ 0)) with
      | none =>
        rw [List.find?_eq_none] at hf
        exact h2 fun d hd => by simpa using hf d hd
      | some d =>
        have := List.find?_some hf
        unfold wrongE at h
        rw [if_neg h1, hf] at h
        simp at this
        exact this h
end
theorem has_vd {w : World} {vs : List Dv} {ds : List Dth} (h : RdD w vs ds) (k : Nat) (p : Int) : hasV (vs.take k) p = decide (p ∈ (pids ds).take k) := by
  have e : (vs.take k).map Dv.p = (pids ds).take k := by
    apply List.ext_getElem?
    intro i
    rw [List.getElem?_map, List.getElem?_take, List.getElem?_take]
    by_cases hi : i < k
    · rw [if_pos hi, if_pos hi]
      unfold pids
      rw [List.getElem?_map]
      cases hv : vs[i]? with
      | none =>
        have : ds[i]? = none := by rw [List.getElem?_eq_none_iff] at hv ⊢; rw [← h.len]; exact hv
        rw [this]; rfl
      | some v =>
        obtain ⟨d, hd⟩ : ∃ d, ds[i]? = some d := ⟨_, List.getElem?_eq_getElem (by rw [← h.len]; exact (List.getElem?_eq_some_iff.1 hv).1)⟩
        rw [hd]
        simp [(h.at_ i v d hv hd).1]
    · rw [if_neg hi, if_neg hi]; rfl
  unfold hasV
  rw [← e, Bool.eq_iff_iff, List.any_eq_true, decide_eq_true_eq, List.mem_map]
  constructor
  · rintro ⟨v, hv, h⟩
    exact ⟨v, hv, by simpa [eq_comm] using h⟩
  · rintro ⟨v, hv, h⟩
    exact ⟨v, hv, by simp [h]⟩
theorem nodup_snoc {l : List Int} {x : Int} (h : l.Nodup) (hx : x ∉ l) : (l ++ [x]).Nodup := by
  rw [List.nodup_append]
  exact ⟨h, by simp, fun a ha b hb => by rw [List.mem_singleton.1 hb]; exact fun e => hx (e ▸ ha)⟩
set_option maxRecDepth 100000 in
set_option maxHeartbeats 16000000 in
theorem wrong_any (w : World) (A B D : Option Addr) (c1 c2 c3 : Nat) (live traps : List Int) (vs : List Dv) (ds : List Dth) (ha : Src w eI64 A c1 live) (hb : Src w eI64 B c2 traps) (hd : Src w eDv D c3 vs) (hr : RdD w vs ds) (hT : Tabs w)
    (hn1 : live.length ≤ 9000000000000000000) (hn2 : traps.length ≤ 9000000000000000000) (hn3 : vs.length ≤ 9000000000000000000) (hcc : vs.length ≤ c3) (hn4 : ∀ d ∈ ds, d.r.length ≤ 9000000000000) :
    Calls Tryz.prog 23 #[.slice A live.length c1, .slice B traps.length c2, .slice D vs.length c3] w fun e w' => e = .returned (.int .i64 (wrongE live traps ds)) ∧ Below w.heap.size w w' := by
  have HA := Kp.mk (cfb_any w A c1 live ha hn1)
  have HB := Kp.mk (cfb_any w B c2 traps hb hn2)
  have HL := Kp.mk ha
  have HD := Kp.mk hd
  have HR := Kp.mk hr
  have HT := Kp.mk hT
  have H4 := Kp.mk hn4
  clear ha hb hd hr hT hn4
  have Q1 := fun (q : badP live = true ∨ badP traps = true ∨ badP (pids ds) = true) => wrongE_1 q
  have QQ1 := Kp.mk Q1
  clear Q1
  cases hl : badP live
  rotate_left
  · have E := Kp.mk (QQ1.out (.inl hl))
    rw [hl] at HA
    clear hl
    go_enter Tryz.func23, Tryz.ntmps23
    go_wp2_with (go_at_call 54; refine HA.out.mono ?_; rintro e w1 ⟨rfl, hw1⟩; obtain rfl := hw1.symm)
    go_ret
    exact ⟨by rw [E.out]; rfl, Below.refl _ _⟩
  cases ht : badP traps
  rotate_left
  · have E := Kp.mk (QQ1.out (.inr (.inl ht)))
    rw [hl] at HA
    rw [ht] at HB
    clear hl ht
    go_enter Tryz.func23, Tryz.ntmps23
    go_wp2_with (go_at_call 54; first | ((with_reducible refine HA.out.mono ?_); rintro e w1 ⟨rfl, hw1⟩; obtain rfl := hw1.symm) | ((with_reducible refine HB.out.mono ?_); rintro e w1 ⟨rfl, hw1⟩; obtain rfl := hw1.symm))
    go_ret
    exact ⟨by rw [E.out]; rfl, Below.refl _ _⟩
  have HLT := Kp.mk (And.intro hl ht)
  rw [hl] at HA
  rw [ht] at HB
  clear hl ht
  go_enter Tryz.func23, Tryz.ntmps23
  go_wp2_with (go_at_call 54; first | ((with_reducible refine HA.out.mono ?_); rintro e w1 ⟨rfl, hw1⟩; obtain rfl := hw1.symm) | ((with_reducible refine HB.out.mono ?_); rintro e w1 ⟨rfl, hw1⟩; obtain rfl := hw1.symm))
  obtain ⟨n, hn⟩ : ∃ n, n = vs.length := ⟨_, rfl⟩
  have HN := Kp.mk hn
  have HND : Kp (n = ds.length) := ⟨by rw [hn, HR.out.len]⟩
  have HCC : Kp (n ≤ c3) := ⟨by rw [hn]; exact hcc⟩
  clear hcc
  rw [← hn]
  rw [← hn] at hn3
  clear hn
  go_loopw [9, 28] (fun _ i wr => ∃ k : Nat, k ≤ n ∧ i = .int .i64 k ∧ Kp (badP ((pids ds).take k) = false) ∧ Kp (Below w.heap.size w wr)) (fun _ i _ => n - (intOf i).toNat)
  case atStart => exact ⟨0, Nat.zero_le _, rfl, ⟨rfl⟩, ⟨Below.refl _ _⟩⟩
  case round =>
    obtain ⟨k, hk, rfl, HJ, HBW⟩ := hrel
    by_cases hlt : k < n
    · obtain ⟨x, hx⟩ : ∃ x, vs[k]? = some x := ⟨_, List.getElem?_eq_getElem (by have := HN.out; omega)⟩
      obtain ⟨d, hd⟩ : ∃ d, ds[k]? = some d := ⟨_, List.getElem?_eq_getElem (by have := HND.out; omega)⟩
      have hpd := (HR.out.at_ k x d hx hd).1
      obtain ⟨ad, rfl⟩ : ∃ ad, D = some ad := by
        cases D with
        | none => have h9 := (HD.out.none rfl).1; rw [h9] at hx; simp at hx
        | some ad => exact ⟨ad, rfl⟩
      obtain ⟨g, o, rfl⟩ := HD.out.addr (by have := HN.out; omega)
      obtain ⟨a0, a1⟩ := (HD.out.below HBW.out).dv k x hx
      have hsn := badP_snoc (pids ds) k x.p (by unfold pids; rw [List.getElem?_map, hd, hpd]; rfl)
      rw [HJ.out, Bool.false_or] at hsn
      have HSN := Kp.mk hsn
      have HP := Kp.mk (fun w2 => bad_any w2 x.p)
      have HB1 := Kp.mk (HBW.out.alloc HBW.out.size (.cells #[.int .i64 x.p, .slice x.A x.n x.c] 48))
      have k0 : (0 : Int) ≤ (k : Int) := by omega
      have k1 : (k : Int) < (n : Int) := by omega
      clear hsn hx hd hpd
      cases hb : (!decide (IsPid x.p))
      · rw [hb] at HSN HP
        clear hb
        go_wp2_with (go_at_call 52; refine (HP.out _).mono ?_; rintro e w1 ⟨rfl, hw1⟩; obtain rfl := hw1.symm)
        go_roundw
        case rel => exact ⟨k + 1, by omega, by go_num, HSN, HB1⟩
        case measure => simp [intOf]; omega
      · rw [hb] at HSN HP
        clear hb
        have E : Kp (wrongE live traps ds = 1) := ⟨wrongE_1 (.inr (.inr (badP_mono HSN.out)))⟩
        go_wp2_with (go_at_call 52; refine (HP.out _).mono ?_; rintro e w1 ⟨rfl, hw1⟩; obtain rfl := hw1.symm)
        go_ret
        exact ⟨by rw [E.out]; rfl, HB1.out⟩
    · have HP3 : Kp (¬ (badP live = true ∨ badP traps = true ∨ badP (pids ds) = true)) := ⟨by
        have := HJ.out
        rw [List.take_of_length_le (by unfold pids; rw [List.length_map]; have := HND.out; omega)] at this
        rw [HLT.out.1, HLT.out.2, this]
        decide⟩
      have hk2 : k = n := by omega
      subst hk2
      have HBW1 := HBW
      clear HJ HBW
      obtain ⟨wa, rfl⟩ : ∃ wa : World, wa = wr := ⟨_, rfl⟩
      go_wp2
      go_loopw [11, 12, 13, 39] (fun _ _ _ i wr => ∃ j : Nat, j ≤ k ∧ i = .int .i64 j ∧ Kp (∀ (i : Nat) d', i < j → ds[i]? = some d' → (rightE d'.r).1 = 0) ∧ Kp (Below w.heap.size w wr)) (fun _ _ _ i _ => k - (intOf i).toNat)
      case atStart => exact ⟨0, Nat.zero_le _, rfl, ⟨fun i d' hi => absurd hi (Nat.not_lt_zero _)⟩, HBW1⟩
      case round =>
        obtain ⟨j, hj, rfl, HJ, HBW⟩ := hrel
        by_cases hlt2 : j < k
        · obtain ⟨x, hx⟩ : ∃ x, vs[j]? = some x := ⟨_, List.getElem?_eq_getElem (by have := HN.out; omega)⟩
          obtain ⟨d, hd⟩ : ∃ d, ds[j]? = some d := ⟨_, List.getElem?_eq_getElem (by have := HND.out; omega)⟩
          obtain ⟨hpd, hnd, hsd⟩ := HR.out.at_ j x d hx hd
          obtain ⟨ad, rfl⟩ : ∃ ad, D = some ad := by
            cases D with
            | none => have h9 := (HD.out.none rfl).1; rw [h9] at hx; simp at hx
            | some ad => exact ⟨ad, rfl⟩
          obtain ⟨g, o, rfl⟩ := HD.out.addr (by have := HN.out; omega)
          obtain ⟨a0, a1⟩ := (HD.out.below HBW.out).dv j x hx
          have HB1 := Kp.mk (HBW.out.alloc HBW.out.size (.cells #[.int .i64 x.p, .slice x.A x.n x.c] 48))
          have hRT := wright_any (wr.alloc (.cells #[.int .i64 x.p, .slice x.A x.n x.c] 48)) x.A x.c d.r (hsd.below HB1.out) (H4.out d (List.mem_of_getElem? hd)) (HT.out.below HB1.out)
          rw [← hnd] at hRT
          unfold rightV at hRT
          obtain ⟨E1, hE1⟩ : ∃ E1, E1 = (rightE d.r).1 := ⟨_, rfl⟩
          obtain ⟨E2, hE2⟩ : ∃ E2, E2 = (rightE d.r).2 := ⟨_, rfl⟩
          rw [← hE1, ← hE2] at hRT
          have HRT := Kp.mk hRT
          have HDD := Kp.mk hd
          have HE1 := Kp.mk hE1
          have j0 : (0 : Int) ≤ (j : Int) := by omega
          have j1 : (j : Int) < (k : Int) := by omega
          clear hRT hx hd hpd hnd hsd hE1 hE2
          by_cases h0 : E1 = 0
          · have hb0 : (E1 != 0) = false := by simpa using h0
            have HNX : Kp (∀ (i : Nat) d', i < j + 1 → ds[i]? = some d' → (rightE d'.r).1 = 0) := ⟨fun i d' hi hd' => by
              rcases Nat.lt_succ_iff_lt_or_eq.1 hi with h | h
              · exact HJ.out i d' h hd'
              · subst h; rw [HDD.out] at hd'; cases hd'; rw [← HE1.out]; exact h0⟩
            clear h0
            go_wp2_with (go_at_call 55; refine HRT.out.mono ?_; rintro e w2 ⟨rfl, b2⟩; have HB2 := Kp.mk (bstep HB1.out HB1.out.size b2); clear b2)
            go_roundw
            case rel => exact ⟨j + 1, by omega, by go_num, HNX, HB2⟩
            case measure => simp [intOf]; omega
          · have hb0 : (E1 != 0) = true := by simpa using h0
            have E : Kp (wrongE live traps ds = E1) := ⟨by rw [HE1.out]; exact wrongE_2 HP3.out HDD.out (by rw [← HE1.out]; exact h0) HJ.out⟩
            clear h0
            go_wp2_with (go_at_call 55; refine HRT.out.mono ?_; rintro e w2 ⟨rfl, b2⟩; have HB2 := Kp.mk (bstep HB1.out HB1.out.size b2); clear b2)
            go_ret
            exact ⟨by rw [E.out]; rfl, HB2.out⟩
        · have HP4 : Kp (∀ d ∈ ds, (rightE d.r).1 = 0) := ⟨fun d hd => by
            obtain ⟨i, hi, he⟩ := List.mem_iff_getElem.1 hd
            exact HJ.out i d (by have := HND.out; omega) (by rw [List.getElem?_eq_getElem hi, he])⟩
          have hk3 : j = k := by omega
          subst hk3
          have HBW2 := HBW
          clear HJ HBW HBW1
          obtain ⟨wb, rfl⟩ : ∃ wb : World, wb = wr := ⟨_, rfl⟩
          go_wp2
          go_loopw [14, 15, 55] (fun _ _ i wr => ∃ k : Nat, k ≤ j ∧ i = .int .i64 k ∧ Kp (((pids ds).take k).Nodup) ∧ Kp (Below w.heap.size w wr)) (fun _ _ i _ => j - (intOf i).toNat)
          case atStart => exact ⟨0, Nat.zero_le _, rfl, ⟨by simp⟩, HBW2⟩
          case round =>
            obtain ⟨k, hk, rfl, HJ, HBW⟩ := hrel
            by_cases hlt3 : k < j
            · obtain ⟨x, hx⟩ : ∃ x, vs[k]? = some x := ⟨_, List.getElem?_eq_getElem (by have := HN.out; omega)⟩
              obtain ⟨d, hd⟩ : ∃ d, ds[k]? = some d := ⟨_, List.getElem?_eq_getElem (by have := HND.out; omega)⟩
              have hpd := (HR.out.at_ k x d hx hd).1
              obtain ⟨ad, rfl⟩ : ∃ ad, D = some ad := by
                cases D with
                | none => have h9 := (HD.out.none rfl).1; rw [h9] at hx; simp at hx
                | some ad => exact ⟨ad, rfl⟩
              obtain ⟨g, o, rfl⟩ := HD.out.addr (by have := HN.out; omega)
              obtain ⟨a0, a1⟩ := (HD.out.below HBW.out).dv k x hx
              have HB1 := Kp.mk (HBW.out.alloc HBW.out.size (.cells #[.int .i64 x.p, .slice x.A x.n x.c] 48))
              have hpk : (pids ds)[k]? = some x.p := by unfold pids; rw [List.getElem?_map, hd, hpd]; rfl
              have htk : (vs.take k).length = k := by rw [List.length_take]; have := HN.out; omega
              have hCF := cfd_any (wr.alloc (.cells #[.int .i64 x.p, .slice x.A x.n x.c] 48)) (some ⟨g, o, none⟩) c3 (vs.take k) wr.heap.size x.p ((HD.out.below HB1.out).take k) (by omega) (blk_c (blk_new wr _) 0)
              rw [htk, has_vd HR.out] at hCF
              have HCF := Kp.mk hCF
              have HPK := Kp.mk hpk
              have k0 : (0 : Int) ≤ (k : Int) := by omega
              have k1 : (k : Int) < (j : Int) := by omega
              have hnc : j ≤ c3 := HCC.out
              have k2 : (k : Int) ≤ (c3 : Int) := by omega
              have k3 : k ≤ c3 := by omega
              clear hCF hx hd hpd htk hpk
              cases hb : decide (x.p ∈ (pids ds).take k)
              · rw [hb] at HCF
                have HNX : Kp (((pids ds).take (k + 1)).Nodup) := ⟨by
                  obtain ⟨hkl, hke⟩ := List.getElem?_eq_some_iff.1 HPK.out
                  rw [List.take_succ_eq_append_getElem hkl, hke]
                  exact nodup_snoc HJ.out (of_decide_eq_false hb)⟩
                clear hb
                go_wp2_with (go_at_call 56; refine HCF.out.mono ?_; rintro e w2 ⟨rfl, b2⟩; have HB2 := Kp.mk (bstep HB1.out HB1.out.size b2); clear b2)
                go_roundw
                case rel => exact ⟨k + 1, by omega, by go_num, HNX, HB2⟩
                case measure => simp [intOf]; omega
              · rw [hb] at HCF
                have E : Kp (wrongE live traps ds = 6) := ⟨by
                  rw [wrongE_3 HP3.out HP4.out, if_pos]
                  intro hnd
                  obtain ⟨hkl, hke⟩ := List.getElem?_eq_some_iff.1 HPK.out
                  have h1 := hnd.sublist (List.take_sublist (k + 1) (pids ds))
                  rw [List.take_succ_eq_append_getElem hkl, hke, List.nodup_append] at h1
                  exact h1.2.2 _ (of_decide_eq_true hb) _ (List.mem_singleton.2 rfl) rfl⟩
                clear hb
                go_wp2_with (go_at_call 56; refine HCF.out.mono ?_; rintro e w2 ⟨rfl, b2⟩; have HB2 := Kp.mk (bstep HB1.out HB1.out.size b2); clear b2)
                go_ret
                exact ⟨by rw [E.out]; rfl, HB2.out⟩
            · have HP5 : Kp ((pids ds).Nodup) := ⟨by
                have := HJ.out
                rwa [List.take_of_length_le (by unfold pids; rw [List.length_map]; have := HND.out; omega)] at this⟩
              have hk4 : k = j := by omega
              subst hk4
              have HBW3 := HBW
              clear HJ HBW HBW2
              obtain ⟨wc, rfl⟩ : ∃ wc : World, wc = wr := ⟨_, rfl⟩
              go_wp2
              go_loopw [17, 68] (fun _ i wr => ∃ j : Nat, j ≤ k ∧ i = .int .i64 j ∧ Kp (∀ (i : Nat) d', i < j → ds[i]? = some d' → d'.p ∈ live) ∧ Kp (Below w.heap.size w wr)) (fun _ i _ => k - (intOf i).toNat)
              case atStart => exact ⟨0, Nat.zero_le _, rfl, ⟨fun i d' hi => absurd hi (Nat.not_lt_zero _)⟩, HBW3⟩
              case round =>
                obtain ⟨j, hj, rfl, HJ, HBW⟩ := hrel
                by_cases hlt4 : j < k
                · obtain ⟨x, hx⟩ : ∃ x, vs[j]? = some x := ⟨_, List.getElem?_eq_getElem (by have := HN.out; omega)⟩
                  obtain ⟨d, hd⟩ : ∃ d, ds[j]? = some d := ⟨_, List.getElem?_eq_getElem (by have := HND.out; omega)⟩
                  have hpd := (HR.out.at_ j x d hx hd).1
                  obtain ⟨ad, rfl⟩ : ∃ ad, D = some ad := by
                    cases D with
                    | none => have h9 := (HD.out.none rfl).1; rw [h9] at hx; simp at hx
                    | some ad => exact ⟨ad, rfl⟩
                  obtain ⟨g, o, rfl⟩ := HD.out.addr (by have := HN.out; omega)
                  obtain ⟨a0, a1⟩ := (HD.out.below HBW.out).dv j x hx
                  have HB1 := Kp.mk (HBW.out.alloc HBW.out.size (.cells #[.int .i64 x.p, .slice x.A x.n x.c] 48))
                  have hCT := cont_any (wr.alloc (.cells #[.int .i64 x.p, .slice x.A x.n x.c] 48)) A c1 live x.p (HL.out.below HB1.out) hn1
                  have HCT := Kp.mk hCT
                  have HDD := Kp.mk hd
                  have HPD := Kp.mk hpd
                  have j0 : (0 : Int) ≤ (j : Int) := by omega
                  have j1 : (j : Int) < (k : Int) := by omega
                  clear hCT hx hd hpd
                  cases hb : decide (x.p ∈ live)
                  · rw [hb] at HCT
                    have E : Kp (wrongE live traps ds = 131) := ⟨by
                      rw [wrongE_3 HP3.out HP4.out, if_neg (fun h => h HP5.out), if_pos ⟨d, List.mem_of_getElem? HDD.out, by rw [← HPD.out]; exact of_decide_eq_false hb⟩]⟩
                    clear hb
                    go_wp2_with (go_at_call 58; refine HCT.out.mono ?_; rintro e w2 ⟨rfl, hw2⟩; obtain rfl := hw2.symm)
                    go_ret
                    exact ⟨by rw [E.out]; rfl, HB1.out⟩
                  · rw [hb] at HCT
                    have HNX : Kp (∀ (i : Nat) d', i < j + 1 → ds[i]? = some d' → d'.p ∈ live) := ⟨fun i d' hi hd' => by
                      rcases Nat.lt_succ_iff_lt_or_eq.1 hi with h | h
                      · exact HJ.out i d' h hd'
                      · subst h; rw [HDD.out] at hd'; cases hd'; rw [← HPD.out]; exact of_decide_eq_true hb⟩
                    clear hb
                    go_wp2_with (go_at_call 58; refine HCT.out.mono ?_; rintro e w2 ⟨rfl, hw2⟩; obtain rfl := hw2.symm)
                    go_roundw
                    case rel => exact ⟨j + 1, by omega, by go_num, HNX, HB1⟩
                    case measure => simp [intOf]; omega
                · have E : Kp (wrongE live traps ds = 0) := ⟨by
                    rw [wrongE_3 HP3.out HP4.out, if_neg (fun h => h HP5.out), if_neg]
                    rintro ⟨d, hd, hn⟩
                    obtain ⟨i, hi, he⟩ := List.mem_iff_getElem.1 hd
                    exact hn (HJ.out i d (by have := HND.out; omega) (by rw [List.getElem?_eq_getElem hi, he]))⟩
                  go_wp2
                  go_ret
                  exact ⟨by rw [E.out]; rfl, HBW.out⟩
end Go.Proofs.YtameidoaenoppaaGreatDoor
