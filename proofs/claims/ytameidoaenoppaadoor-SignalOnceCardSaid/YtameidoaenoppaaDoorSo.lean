/- SignalOnce walked: it answers true; bounds stand in the statement. -/
import Derived.Test.YtameidoaenoppaaDoorSl
namespace Go.Proofs.YtameidoaenoppaaDoor
open Go.RowKit

theorem OwnT.rd {w0 w w' : World} {A : Option Addr} {m c : Nat} {vs : List Dv} {D : List Dth} (h : OwnT w0 w 48 (.slice A m c) vs D) (hb : Below w.heap.size w w') {j : Nat} {d : Dth} (hd : D[j]? = some d) :
    ∃ g B n k, A = some ⟨g, 0, none⟩ ∧ w'.cell? ⟨g, j * 2, none⟩ = some (.int .i64 d.p) ∧ w'.cell? ⟨g, j * 2 + 1, none⟩ = some (.slice B n k) := by
  obtain ⟨y, hy⟩ : ∃ y, vs[j]? = some y := ⟨_, List.getElem?_eq_getElem (by rw [h.len]; exact (List.getElem?_eq_some_iff.1 hd).1)⟩
  have hp := (h.tx j y d hy hd).1
  obtain ⟨A', c', hv, _, _, h5, h6⟩ := h.own.shape
  cases hv
  cases A with
  | none => have := (h5 rfl).1; rw [this] at hy; simp at hy
  | some a =>
    obtain ⟨g, rfl⟩ := h6 a rfl
    obtain ⟨y0, y1⟩ := ((h.own.src rfl).below hb).dv j y hy
    rw [Nat.zero_add] at y0 y1
    rw [hp] at y0
    exact ⟨g, _, _, _, rfl, y0, y1⟩
theorem rnds_none (live traps : List Int) (ns : List NB) : ∀ i, rnds live traps i (⟨[], []⟩, ns) = (⟨[], []⟩, ns)
  | 0 => rfl
  | i + 1 => by
    show rnd live traps i (rnds live traps i (⟨[], []⟩, ns)) = _
    rw [rnds_none live traps ns i]
    rfl
theorem sprd_none (live traps : List Int) (ns : List NB) : sprd live traps [] ns = (⟨[], []⟩, ns) := rnds_none live traps ns _
def leftP (D : List Dth) (live : List Int) : List Int := live.filter (fun p => !decide (p ∈ pids D))
theorem leftP_wrong {live traps : List Int} {ds D : List Dth} (h : wrongE live traps ds = 0) : wrongE (leftP D live) traps [] = 0 := by
  obtain ⟨h1, h2, _⟩ := wrongE_ok h
  have h3 : badP (leftP D live) = false := by
    unfold badP at h1 ⊢
    rw [List.any_eq_false] at h1 ⊢
    exact fun x hx => h1 x (List.mem_filter.1 hx).1
  unfold wrongE
  rw [if_neg (by rw [h3, h2]; simp [pids, badP])]
  simp [pids]
def deadB (D : List Dth) (p : Int) : Bool := D.any (fun d => decide (d.p = p))
theorem deadB_snoc {D : List Dth} {j : Nat} {d : Dth} (hd : D[j]? = some d) (p : Int) : deadB (D.take (j + 1)) p = (deadB (D.take j) p || decide (d.p = p)) := by
  unfold deadB
  rw [List.take_add_one, hd, List.any_append]
  simp
theorem deadB_mem (D : List Dth) (p : Int) : deadB D p = decide (p ∈ pids D) := by
  unfold deadB pids
  rw [Bool.eq_iff_iff, List.any_eq_true, decide_eq_true_eq, List.mem_map]
  constructor
  · rintro ⟨d, h1, h2⟩; exact ⟨d, h1, of_decide_eq_true h2⟩
  · rintro ⟨d, h1, h2⟩; exact ⟨d, h1, decide_eq_true h2⟩
theorem pids_at {D : List Dth} {i : Nat} {d : Dth} (h : D[i]? = some d) : (pids D)[i]? = some d.p := by unfold pids; rw [List.getElem?_map, h]; rfl
theorem nodup_ne {D : List Dth} (h : (pids D).Nodup) {i j : Nat} {d e : Dth} (hi : D[i]? = some d) (hj : D[j]? = some e) (hij : j < i) : d.p ≠ e.p := fun he => by
  obtain ⟨a1, h1⟩ := List.getElem?_eq_some_iff.1 (pids_at hi)
  obtain ⟨a2, h2⟩ := List.getElem?_eq_some_iff.1 (pids_at hj)
  have := List.pairwise_iff_getElem.1 h j i a2 a1 hij
  rw [h1, h2] at this
  exact this he.symm
set_option maxRecDepth 100000 in
set_option maxHeartbeats 16000000 in
theorem signalOnce_any (w : World) (A0 : Option Addr) (c0 : Nat) (ops : List OpM) (A1 : Option Addr) (c1 : Nat) (live : List Int) (A2 : Option Addr) (c2 : Nat) (traps : List Int) (A3 : Option Addr) (c3 : Nat) (vs : List Dv) (ds : List Dth)
    (hm : CaseM w A0 c0 ops A1 c1 live A2 c2 traps A3 c3 vs ds) (hT : Tabs w) :
    Calls Tryd.prog 7 #[caseV A0 c0 ops.length A1 c1 live.length A2 c2 traps.length A3 c3 vs.length] w fun e w' => e = .returned (.bool true) ∧ Below w.heap.size w w' := by
  have HM := Kp.mk hm
  have HT := Kp.mk hT
  have HMB := Kp.mk (made_beg hm)
  clear hm hT
  obtain ⟨n0, h0⟩ : ∃ n, n = ops.length := ⟨_, rfl⟩
  obtain ⟨n1, h1⟩ : ∃ n, n = live.length := ⟨_, rfl⟩
  obtain ⟨n2, h2⟩ : ∃ n, n = traps.length := ⟨_, rfl⟩
  obtain ⟨n3, h3⟩ : ∃ n, n = vs.length := ⟨_, rfl⟩
  have N := Kp.mk (And.intro h0 (And.intro h1 (And.intro h2 h3)))
  unfold caseV
  rw [← h0, ← h1, ← h2, ← h3] at HMB ⊢
  clear h0 h1 h2 h3
  have hn1 : n1 ≤ 17592186043904 := by have := HM.out.n1; have := N.out.2.1; omega
  go_enter Tryd.func7, Tryd.ntmps7
  go_wp2_with fail
  refine HMB.out.mono ?_
  rintro e w2 ⟨p, bm, lm, rm, q, lv, ns, last, rfl, hbg⟩
  have HBG := Kp.mk hbg
  have bx := hbg.box
  rw [← N.out.1, ← N.out.2.1, ← N.out.2.2.1, ← N.out.2.2.2] at bx
  have b1 := blk_c bx 1
  have b2 := blk_c bx 2
  have b3 := blk_c bx 3
  have hsp := spread_all w2 p bm lm rm ns last A1 A2 A3 c1 c2 c3 live traps vs ds hbg.g (by have := hbg.last; omega) hbg.cm.s1 hbg.cm.s2 hbg.cm.s3 hbg.cm.rd (fun w' hc => HT.out.below (chg_below hbg.bel hc (fun g hg => Nat.le_of_lt (hbg.fg g hg)) hbg.bel.size))
    (by have := HM.out.n1; omega) (by have := HM.out.n2; omega) (by have := HM.out.n3; omega) HM.out.cc (fun d hd => by have := (HM.out.n4 d hd).2; omega)
  rw [← N.out.2.1, ← N.out.2.2.1, ← N.out.2.2.2] at hsp
  have HSP := Kp.mk hsp
  have LL : Kp (last ≤ 1000000000000000000) := ⟨by have := hbg.last; omega⟩
  clear hbg bx hsp
  go_wp2_with fail
  refine HSP.out.mono ?_
  rintro e w3 (⟨hw, dv, sv, vs9, us9, rfl, k1, k2, k3, k4, k5⟩ | ⟨hw, rfl, hb⟩)
  rotate_left
  · have G3' := Kp.mk (HBG.out.below hb)
    have heb : (wrongE live traps ds != 0) = true := by simpa using hw
    obtain ⟨er, her⟩ : ∃ er, er = wrongE live traps ds := ⟨_, rfl⟩
    rw [← her] at heb ⊢
    have HAW := Kp.mk (awake_any w3 (HT.out.below G3'.out.bel))
    clear hw her hb b1 b2 b3
    go_wp2_with (go_at_call 19; refine HAW.out.mono ?_; rintro e w7 ⟨rfl, b7⟩; have B7 := Kp.mk (G3'.out.below b7).bel; clear b7)
    go_ret
    exact ⟨rfl, B7.out⟩
  have HW := Kp.mk hw
  obtain ⟨hbel, hcm, hid, hbx⟩ := HBG.out.spread HM.out k5
  have HB3 := Kp.mk hbel
  have HSL := Kp.mk (sprd_left (traps := traps) (okr_start hw HBG.out.g.ok))
  have OKR := Kp.mk ((okr_start (traps := traps) hw HBG.out.g.ok).rnds (traps := traps) live.length)
  obtain ⟨D, hD⟩ : ∃ D, D = (sprd live traps ds ns).1.ds := ⟨_, rfl⟩
  obtain ⟨NS, hNS⟩ : ∃ N, N = (sprd live traps ds ns).2 := ⟨_, rfl⟩
  have hdl : D.length ≤ 1099511627776 := by
    rw [hD]
    exact OKR.out.s.len (wrongE_ok hw).1
  have ND : Kp ((pids D).Nodup) := ⟨by rw [hD]; exact OKR.out.s.nodup⟩
  rw [← hD] at k1 HSL
  rw [← hNS] at k4 HSL
  have K1 := Kp.mk k1
  have K4 := Kp.mk k4
  have KS1 := Kp.mk hcm.s1
  have KS2 := Kp.mk hcm.s2
  obtain ⟨Dv1, cd, hv, hcd, hcm2, _⟩ := k1.own.shape
  unfold maxLen at hcm2
  obtain ⟨m, hm⟩ : ∃ m, m = D.length := ⟨_, rfl⟩
  have MM := Kp.mk hm
  rw [k1.len, ← hm] at hv hcd
  subst hv
  rw [← hm] at hdl
  rw [← N.out.1, ← N.out.2.1, ← N.out.2.2.1, ← N.out.2.2.2] at hbx
  have BX := Kp.mk hbx
  clear hw k1 k2 k3 k4 k5 hbel hcm hid hbx hm hD hNS b1 b2 b3
  -- nobody twice
  go_wp2
  go_loopw [9, 10, 12, 56, 65] (fun _ _ _ i _ wr => ∃ (k : Nat), k ≤ m ∧ i = .int .i64 k ∧ Kp (Below w3.heap.size w3 wr)) (fun _ _ _ i _ _ => m - (intOf i).toNat)
  case atStart => exact ⟨0, Nat.zero_le _, rfl, ⟨Below.refl _ _⟩⟩
  case round =>
    obtain ⟨k, hk, rfl, HB⟩ := hrel
    by_cases hlt : k < m
    · obtain ⟨d, hd⟩ : ∃ d, D[k]? = some d := ⟨_, List.getElem?_eq_getElem (by have := MM.out; omega)⟩
      obtain ⟨g, Bt, nt, kt, rfl, y0, y1⟩ := K1.out.rd HB.out hd
      have k0 : (0 : Int) ≤ (k : Int) := by omega
      have k1 : (k : Int) < (m : Int) := by omega
      have kc : k ≤ cd := by omega
      have XX := Kp.mk (blk_new wr (.cells #[.int .i64 d.p, .slice Bt nt kt] 48))
      have HBO := Kp.mk (HB.out.alloc HB.out.size (.cells #[.int .i64 d.p, .slice Bt nt kt] 48))
      have HD := Kp.mk hd
      clear hd
      go_wp2
      obtain ⟨bb, hbb⟩ : ∃ bb, bb = wr.heap.size := ⟨_, rfl⟩
      rw [← hbb] at XX ⊢
      obtain ⟨WO, hWO⟩ : ∃ WO, WO = wr.alloc (.cells #[.int .i64 d.p, .slice Bt nt kt] 48) := ⟨_, rfl⟩
      rw [← hWO] at XX HBO ⊢
      clear hbb hWO y0 y1
      go_loopw [12, 65] (fun _ i wi => ∃ (j : Nat), j ≤ k ∧ i = .int .i64 j ∧ Kp (Below WO.heap.size WO wi)) (fun _ i _ => k - (intOf i).toNat)
      case atStart => exact ⟨0, Nat.zero_le _, rfl, ⟨Below.refl _ _⟩⟩
      case round =>
        obtain ⟨j, hj, rfl, HI⟩ := hrel
        obtain ⟨wi, hwi⟩ : ∃ wi : World, wi = wr := ⟨_, rfl⟩
        rw [← hwi] at HI ⊢
        clear hwi
        have XI := Kp.mk ((HI.out.block bb (lt_of_block XX.out)).trans XX.out)
        have HBI := Kp.mk (bstep HBO.out HBO.out.size HI.out)
        by_cases hjt : j < k
        · obtain ⟨e, he⟩ : ∃ e, D[j]? = some e := ⟨_, List.getElem?_eq_getElem (by have := MM.out; omega)⟩
          obtain ⟨g2, Bu, nu, ku, hg2, z0, z1⟩ := K1.out.rd HBI.out he
          cases hg2
          have hne : (d.p == e.p) = false := by simpa using nodup_ne ND.out HD.out he hjt
          have q0 := blk_c XI.out 0
          have lbb := lt_of_block XI.out
          have j0 : (0 : Int) ≤ (j : Int) := by omega
          have j1 : (j : Int) < (k : Int) := by omega
          have HI2 := Kp.mk (HI.out.alloc HI.out.size (.cells #[.int .i64 e.p, .slice Bu nu ku] 48))
          clear he
          go_wp2
          go_roundw
          case rel => exact ⟨j + 1, by omega, by go_num, HI2⟩
          case measure => simp [intOf]; omega
        · obtain rfl : j = k := by omega
          go_wp2
          go_roundw
          case rel => exact ⟨j + 1, by omega, by go_num, HBI⟩
          case measure => simp [intOf]; omega
    · obtain rfl : k = m := by omega
      obtain ⟨wa, hwa⟩ : ∃ wa : World, wa = wr := ⟨_, rfl⟩
      rw [← hwa] at HB ⊢
      clear hwa
      have BXA := Kp.mk ((HB.out.block _ (lt_of_block BX.out)).trans BX.out)
      have bx1 := blk_c BXA.out 1
      go_wp2
      -- who is left
      go_loopw [8, 14, 15, 17, 79, 85] (fun l _ _ _ i _ wr => ∃ (t : Nat) (B : Option Addr) (mm dd : Nat) (L : List Int), t ≤ n1 ∧ i = .int .i64 t ∧ l = .slice B mm dd ∧ mm ≤ t ∧ Kp (L.length = mm ∧ L = (live.take t).filter (fun p => !decide (p ∈ pids D))) ∧ Kp (Own wr 2 eI64 (.slice B mm dd) L) ∧ Kp (Fresh w3 (.slice B mm dd)) ∧ Kp (Below w3.heap.size w3 wr)) (fun _ _ _ _ i _ _ => n1 - (intOf i).toNat)
      case atStart => exact ⟨0, none, 0, 0, [], Nat.zero_le _, rfl, rfl, Nat.le_refl _, ⟨rfl, rfl⟩, ⟨Own.nil _ _ _⟩, ⟨Fresh.nil _ _ _⟩, HB⟩
      case round =>
        clear bx1
        obtain ⟨t, B, mm, dd, L, ht, rfl, rfl, hmt, HL, HO, HF, HBT⟩ := hrel
        by_cases hlt2 : t < n1
        · obtain ⟨x, hx⟩ : ∃ x, live[t]? = some x := ⟨_, List.getElem?_eq_getElem (by have := N.out.2.1; omega)⟩
          obtain ⟨ad, rfl⟩ : ∃ ad, A1 = some ad := by
            cases A1 with
            | none => have h9 := (KS1.out.none rfl).1; rw [h9] at hx; simp at hx
            | some ad => exact ⟨ad, rfl⟩
          obtain ⟨g1, o1, rfl⟩ := KS1.out.addr (by have := N.out.2.1; omega)
          have a0 := (KS1.out.below HBT.out).i64 t x hx
          have t0 : (0 : Int) ≤ (t : Int) := by omega
          have t1 : (t : Int) < (n1 : Int) := by omega
          have HX := Kp.mk hx
          clear hx
          go_wp2
          obtain ⟨WO, hWO⟩ : ∃ WO : World, WO = wr := ⟨_, rfl⟩
          rw [← hWO] at HO HBT a0 ⊢
          clear hWO
          go_loopw [15, 17, 85] (fun gb _ i wi => ∃ (j : Nat), j ≤ k ∧ i = .int .i64 j ∧ gb = .bool (deadB (D.take j) x) ∧ Kp (Below WO.heap.size WO wi)) (fun _ _ i _ => k - (intOf i).toNat)
          case atStart => exact ⟨0, Nat.zero_le _, rfl, rfl, ⟨Below.refl _ _⟩⟩
          case round =>
            obtain ⟨j, hj, rfl, rfl, HI⟩ := hrel
            obtain ⟨wi, hwi⟩ : ∃ wi : World, wi = wr := ⟨_, rfl⟩
            rw [← hwi] at HI ⊢
            clear hwi
            have HBI := Kp.mk (bstep HBT.out HBT.out.size HI.out)
            by_cases hjt : j < k
            · obtain ⟨e, he⟩ : ∃ e, D[j]? = some e := ⟨_, List.getElem?_eq_getElem (by have := MM.out; omega)⟩
              obtain ⟨g2, Bu, nu, ku, rfl, z0, z1⟩ := K1.out.rd HBI.out he
              have hsn := deadB_snoc he x
              have HSN := Kp.mk hsn
              have j0 : (0 : Int) ≤ (j : Int) := by omega
              have j1 : (j : Int) < (k : Int) := by omega
              have HI2 := Kp.mk (HI.out.alloc HI.out.size (.cells #[.int .i64 e.p, .slice Bu nu ku] 48))
              clear he hsn
              cases hgb : deadB (D.take j) x
              · rw [hgb, Bool.false_or] at HSN
                clear hgb
                by_cases h1 : e.p = x
                · have hb1 : (e.p == x) = true := by simpa using h1
                  rw [decide_eq_true h1] at HSN
                  clear h1
                  go_wp2
                  go_roundw
                  case rel => exact ⟨j + 1, by omega, by go_num, by rw [HSN.out], HI2⟩
                  case measure => simp [intOf]; omega
                · have hb1 : (e.p == x) = false := by simpa using h1
                  rw [decide_eq_false h1] at HSN
                  clear h1
                  go_wp2
                  go_roundw
                  case rel => exact ⟨j + 1, by omega, by go_num, by rw [HSN.out], HI2⟩
                  case measure => simp [intOf]; omega
              · rw [hgb, Bool.true_or] at HSN
                clear hgb
                go_wp2
                go_roundw
                case rel => exact ⟨j + 1, by omega, by go_num, by rw [HSN.out], HI2⟩
                case measure => simp [intOf]; omega
            · obtain rfl : j = k := by omega
              have hta : D.take j = D := List.take_of_length_le (by have := MM.out; omega)
              rw [hta, deadB_mem]
              have OI := Kp.mk (HO.out.below HI.out)
              have HFS := Kp.mk (fil_snoc (fun p => !decide (p ∈ pids D)) HX.out)
              clear hta
              cases hgb : decide (x ∈ pids D)
              · have h9 : (!decide (x ∈ pids D)) = true := by rw [hgb]; rfl
                rw [if_pos h9] at HFS
                have HMM : Kp (L.length = mm) := ⟨HL.out.1⟩
                clear hgb h9
                go_wp2_with (at_builtin; refine app1_ev T50 x rfl _ _ rfl OI.out rfl rfl rfl rfl rfl (by have := HMM.out; omega) (by have := HMM.out; omega) ?_; intro A4 n4 c4 w4 d0 d1 d2 d3; have D0 := d0; have D1 := Kp.mk d1; have D2 := Kp.mk d2; have D3 := Kp.mk d3; clear d0 d1 d2 d3)
                obtain rfl : n4 = mm + 1 := by have h1 := D0.out; have := HMM.out; omega
                go_roundw
                case rel =>
                  refine ⟨t + 1, A4, mm + 1, c4, L ++ [x], by omega, by go_num, rfl, by omega, ⟨by rw [List.length_append, HMM.out]; rfl, by rw [HFS.out, ← HL.out.2]⟩, D1, ⟨HF.out.app HBI.out.size D3.out⟩, ⟨chg_below HBI.out D2.out (fun g hg => HF.out g hg) HBI.out.size⟩⟩
                case measure => simp [intOf]; omega
              · have h9 : ¬ (!decide (x ∈ pids D)) = true := by rw [hgb]; decide
                rw [if_neg h9, List.append_nil] at HFS
                clear hgb h9
                go_wp2
                go_roundw
                case rel => exact ⟨t + 1, B, mm, dd, L, by omega, by go_num, rfl, by omega, ⟨HL.out.1, by rw [HFS.out]; exact HL.out.2⟩, OI, HF, HBI⟩
                case measure => simp [intOf]; omega
        · obtain rfl : t = n1 := by omega
          have hL : Kp (L = leftP D live) := ⟨by rw [HL.out.2, List.take_of_length_le (by have := N.out.2.1; omega)]; rfl⟩
          have HMM : Kp (L.length = mm) := ⟨HL.out.1⟩
          obtain ⟨wb, rfl⟩ : ∃ wb : World, wb = wr := ⟨_, rfl⟩
          have HAL := Kp.mk (all_any (K4.out.below HBT.out) LL.out)
          go_wp2_with fail
          refine HAL.out.mono ?_
          rintro e w6 ⟨v6, rfl, o6, f6, b6⟩
          obtain ⟨A6, c6, hv6, _⟩ := o6.shape
          subst hv6
          obtain ⟨lw, hlw⟩ : ∃ l, l = (sn NS).length := ⟨_, rfl⟩
          have LW := Kp.mk hlw
          rw [← hlw] at o6 f6 ⊢
          have O6 := Kp.mk o6
          have B6 := Kp.mk (bstep HBT.out HBT.out.size b6)
          have HO6 := Kp.mk (HO.out.below b6)
          have hlw2 : lw ≤ 1024 := by rw [hlw]; exact K4.out.ok.n1024
          clear o6 f6 b6 hlw
          go_wp2
          -- no bond of the dead
          go_loopw [20, 22, 108, 114] (fun _ _ i _ wr => ∃ (u : Nat), u ≤ k ∧ i = .int .i64 u ∧ Kp (Below w6.heap.size w6 wr)) (fun _ _ i _ _ => k - (intOf i).toNat)
          case atStart => exact ⟨0, Nat.zero_le _, rfl, ⟨Below.refl _ _⟩⟩
          case round =>
            obtain ⟨u, hu, rfl, HB7⟩ := hrel
            by_cases hut : u < k
            · obtain ⟨d, hd⟩ : ∃ d, D[u]? = some d := ⟨_, List.getElem?_eq_getElem (by have := MM.out; omega)⟩
              obtain ⟨g, Bt, nt, kt, rfl, y0, y1⟩ := K1.out.rd (bstep B6.out B6.out.size HB7.out) hd
              have u0 : (0 : Int) ≤ (u : Int) := by omega
              have u1 : (u : Int) < (k : Int) := by omega
              have XX := Kp.mk (blk_new wr (.cells #[.int .i64 d.p, .slice Bt nt kt] 48))
              have HBO := Kp.mk (HB7.out.alloc HB7.out.size (.cells #[.int .i64 d.p, .slice Bt nt kt] 48))
              have HD := Kp.mk hd
              clear hd
              go_wp2
              obtain ⟨bb, hbb⟩ : ∃ bb, bb = wr.heap.size := ⟨_, rfl⟩
              rw [← hbb] at XX ⊢
              obtain ⟨WO, hWO⟩ : ∃ WO, WO = wr.alloc (.cells #[.int .i64 d.p, .slice Bt nt kt] 48) := ⟨_, rfl⟩
              rw [← hWO] at XX HBO ⊢
              clear hbb hWO y0 y1
              go_loopw [22, 114] (fun _ i wi => ∃ (j : Nat), j ≤ lw ∧ i = .int .i64 j ∧ Kp (Below WO.heap.size WO wi)) (fun _ i _ => lw - (intOf i).toNat)
              case atStart => exact ⟨0, Nat.zero_le _, rfl, ⟨Below.refl _ _⟩⟩
              case round =>
                obtain ⟨j, hj, rfl, HI⟩ := hrel
                obtain ⟨wi, hwi⟩ : ∃ wi : World, wi = wr := ⟨_, rfl⟩
                rw [← hwi] at HI ⊢
                clear hwi
                have XI := Kp.mk ((HI.out.block bb (lt_of_block XX.out)).trans XX.out)
                have HBI := Kp.mk (bstep HBO.out HBO.out.size HI.out)
                by_cases hjt : j < lw
                · obtain ⟨b, hb⟩ : ∃ b, (sn NS)[j]? = some b := ⟨_, List.getElem?_eq_getElem (by have := LW.out; omega)⟩
                  obtain ⟨ad, rfl⟩ : ∃ ad, A6 = some ad := by
                    cases A6 with
                    | none => have h9 := ((O6.out.src rfl).none rfl).1; rw [h9] at hb; simp at hb
                    | some ad => exact ⟨ad, rfl⟩
                  obtain ⟨g6, o6, rfl⟩ := (O6.out.src rfl).addr (by have := LW.out; omega)
                  obtain ⟨z0, z1, z2⟩ := ((O6.out.src rfl).below HBI.out).bd j b hb
                  have hng : ¬ (b.a = d.p ∨ b.b = d.p) := fun hor => by
                    have h1 := List.mem_of_getElem? hb
                    rw [HSL.out] at h1
                    have h2 := (List.mem_filter.1 h1).2
                    rw [Bool.not_eq_true', Bool.eq_false_iff] at h2
                    refine h2 (List.any_eq_true.2 ⟨d, List.mem_of_getElem? HD.out, ?_⟩)
                    unfold isOf
                    exact decide_eq_true hor
                  rw [not_or] at hng
                  have hn1' : (b.a == d.p) = false := by simpa using hng.1
                  have hn2' : (b.b == d.p) = false := by simpa using hng.2
                  have q0 := blk_c XI.out 0
                  have lbb := lt_of_block XI.out
                  have j0 : (0 : Int) ≤ (j : Int) := by omega
                  have j1 : (j : Int) < (lw : Int) := by omega
                  have HI2 := Kp.mk (HI.out.alloc HI.out.size (.cells #[.int .i64 b.a, .int .i64 b.b, .int .i64 b.r] 59))
                  clear hb hng
                  go_wp2
                  go_roundw
                  case rel => exact ⟨j + 1, by omega, by go_num, HI2⟩
                  case measure => simp [intOf]; omega
                · obtain rfl : j = lw := by omega
                  go_wp2
                  go_roundw
                  case rel => exact ⟨u + 1, by omega, by go_num, HBI⟩
                  case measure => simp [intOf]; omega
            · obtain rfl : u = k := by omega
              obtain ⟨wc, rfl⟩ : ∃ wc : World, wc = wr := ⟨_, rfl⟩
              have B7 := Kp.mk (bstep B6.out B6.out.size HB7.out)
              have BXC := Kp.mk ((B7.out.block _ (lt_of_block BX.out)).trans BX.out)
              have bx2 := blk_c BXC.out 2
              have hsp := spread_all wc p bm lm rm NS last B A2 none dd c2 0 (leftP D live) traps [] [] (K4.out.below B7.out) LL.out (by have h9 := (HO6.out.below HB7.out).src rfl; rw [hL.out] at h9; exact h9) (KS2.out.below B7.out) ⟨fun ad h => (by cases h), fun _ => ⟨rfl, rfl⟩⟩ ⟨rfl, fun i v d h => (by simp at h)⟩
                (fun w' hc => HT.out.below (chg_below (bstep HB3.out HB3.out.size B7.out) hc (fun g hg => Nat.le_of_lt (HBG.out.fg g hg)) (bstep HB3.out HB3.out.size B7.out).size)) (by rw [← hL.out, HMM.out]; omega) (by have := HM.out.n2; omega) (by simp) (by simp) (fun d hd => by cases hd)
              rw [← hL.out, HMM.out, ← N.out.2.2.1] at hsp
              have HSP2 := Kp.mk hsp
              clear hsp
              go_wp2_with fail
              refine HSP2.out.mono ?_
              rintro e w8 (⟨hw8, dv8, sv8, vs8, us8, rfl, k1, k2, k3, k4, k5⟩ | ⟨hw8, rfl, hb8⟩)
              rotate_left
              · exact absurd (by rw [hL.out]; exact leftP_wrong HW.out) hw8
              rw [sprd_none] at k1 k2 k4
              obtain ⟨D8, cd8, hv8, _⟩ := k1.own.shape
              obtain ⟨S8, cs8, hvs8, _⟩ := k2.own.shape
              have l8 : vs8.length = 0 := k1.len
              have ls8 : us8.length = 0 := k2.len
              rw [l8] at hv8
              rw [ls8] at hvs8
              subst hv8
              subst hvs8
              have hb8 : Below w.heap.size w w8 := chg_below (bstep HB3.out HB3.out.size B7.out) k5 (fun g hg => Nat.le_of_lt (HBG.out.fg g hg)) (bstep HB3.out HB3.out.size B7.out).size
              have B8 := Kp.mk hb8
              have HAL8 := Kp.mk (all_any k4 LL.out)
              have O8 : Kp (Own w8 59 eBd (.slice A6 lw c6) (sn NS)) := ⟨(O6.out.below HB7.out).frame k5 ((O6.out.below HB7.out).off (offG (K4.out.below B7.out) (by decide)))⟩
              clear hw8 k1 k2 k3 k4 k5 l8 ls8 hb8 bx2
              go_wp2_with fail
              refine HAL8.out.mono ?_
              rintro e w9 ⟨v9, rfl, o9, f9, b9⟩
              obtain ⟨A9, c9, hv9, _⟩ := o9.shape
              subst hv9
              have hbo := bonds_any w9 A9 A6 c9 c6 (sn NS) (o9.src rfl) ((O8.out.below b9).src rfl) (by have := LW.out; omega)
              rw [← LW.out] at hbo ⊢
              have HBON := Kp.mk hbo
              have B9 := Kp.mk (bstep B8.out B8.out.size b9)
              clear o9 f9 b9 hbo
              go_wp2_with fail
              refine HBON.out.mono ?_
              rintro e wx ⟨rfl, bx⟩
              have BXX := Kp.mk (bstep B9.out B9.out.size bx)
              have HAW := Kp.mk (awake_any wx (HT.out.below BXX.out))
              clear bx
              go_wp2_with (go_at_call 19; refine HAW.out.mono ?_; rintro e wy ⟨rfl, by_⟩; have BY := Kp.mk (bstep BXX.out BXX.out.size by_); clear by_)
              go_ret
              exact ⟨rfl, BY.out⟩
end Go.Proofs.YtameidoaenoppaaDoor
