/- SignalLeft walked: it answers true; bounds stand in the statement. -/
import Derived.Test.YtameidoaenoppaaDoorSt
namespace Go.Proofs.YtameidoaenoppaaDoor
open Go.RowKit

/-- Has one of them the bond? -/
def goneB (D : List Dth) (b : Bd) : Bool := D.any (fun d => isOf d.p b)
theorem goneB_snoc {D : List Dth} {j : Nat} {d : Dth} (hd : D[j]? = some d) (b : Bd) : goneB (D.take (j + 1)) b = (goneB (D.take j) b || isOf d.p b) := by
  unfold goneB
  rw [List.take_add_one, hd, List.any_append]
  simp
theorem rnds_pre (live traps : List Int) (st : St) (i : Nat) : (rnds live traps i st).1.ds <+: (rnds live traps (i + 1) st).1.ds := by
  show _ <+: (rnd live traps i (rnds live traps i st)).1.ds
  unfold rnd
  split
  · exact List.prefix_rfl
  · exact (fold_grow live traps _ _ _).1
theorem rnds_left (live traps : List Int) (ds : List Dth) (ns : List NB) : ∀ i, (rnds live traps i (⟨ds, []⟩, ns)).2 = ns.filter (fun x => !goneB ((rnds live traps i (⟨ds, []⟩, ns)).1.ds.take i) x.2)
  | 0 => (List.filter_eq_self.2 (fun _ _ => by simp [goneB])).symm
  | i + 1 => by
    have ih := rnds_left live traps ds ns i
    have hp := rnds_pre live traps (⟨ds, []⟩, ns) i
    obtain ⟨st, hst⟩ : ∃ st, st = rnds live traps i (⟨ds, []⟩, ns) := ⟨_, rfl⟩
    have he : rnds live traps (i + 1) (⟨ds, []⟩, ns) = rnd live traps i st := by rw [hst]; rfl
    rw [← hst] at ih hp
    rw [he] at hp ⊢
    cases hd : st.1.ds[i]? with
    | none =>
      have e : rnd live traps i st = st := by unfold rnd; rw [hd]
      rw [e]
      rw [List.getElem?_eq_none_iff] at hd
      rw [List.take_of_length_le (by omega)] at ih
      rw [List.take_of_length_le (by omega)]
      exact ih
    | some d =>
      rw [rnd_some hd] at hp ⊢
      have hk := (List.getElem?_eq_some_iff.1 hd).1
      have h1 : (List.foldl (bond1 live traps d) st.1 (told d.p (sn st.2))).ds[i]? = some d := by
        obtain ⟨t, ht⟩ := hp
        rw [← ht, List.getElem?_append_left hk]
        exact hd
      have h2 : (List.foldl (bond1 live traps d) st.1 (told d.p (sn st.2))).ds.take i = st.1.ds.take i := by
        obtain ⟨t, ht⟩ := hp
        rw [← ht, List.take_append_of_le_length (by omega)]
      show leftN d.p st.2 = _
      simp only
      unfold leftN
      conv => lhs; rw [ih]
      rw [List.filter_filter]
      refine List.filter_congr fun x _ => ?_
      rw [goneB_snoc h1, h2]
      cases isOf d.p x.2 <;> cases goneB (st.1.ds.take i) x.2 <;> rfl
theorem sprd_left {live traps : List Int} {ds : List Dth} {ns : List NB} {last : Int} {n : Nat} (h : OkR live n (⟨ds, []⟩, ns) last) : sn (sprd live traps ds ns).2 = (sn ns).filter (fun b => !goneB (sprd live traps ds ns).1.ds b) := by
  have h1 := rnds_left live traps ds ns live.length
  have h2 := (h.rnds (traps := traps) live.length).s.le
  rw [List.take_of_length_le h2] at h1
  unfold sprd
  conv => lhs; rw [h1]
  unfold sn
  rw [List.filter_map]
  rfl
theorem fil_snoc {α : Type} (f : α → Bool) {L : List α} {k : Nat} {x : α} (hx : L[k]? = some x) : (L.take (k + 1)).filter f = (L.take k).filter f ++ (if f x = true then [x] else []) := by
  rw [List.take_add_one, hx, List.filter_append]
  simp [List.filter_cons]
theorem okr_start {live traps : List Int} {ds : List Dth} {ns : List NB} {last : Int} (hw : wrongE live traps ds = 0) (hg : GOk ns last) : OkR live (ds.length + ns.length) (⟨ds, []⟩, ns) last :=
  ⟨⟨(wrongE_ok hw).2.2.2.2.1, (wrongE_ok hw).2.2.2.2.2, (wrongE_ok hw).2.2.2.1⟩, hg, by simp⟩
set_option maxRecDepth 100000 in
set_option maxHeartbeats 16000000 in
theorem signalLeft_any (w : World) (A0 : Option Addr) (c0 : Nat) (ops : List OpM) (A1 : Option Addr) (c1 : Nat) (live : List Int) (A2 : Option Addr) (c2 : Nat) (traps : List Int) (A3 : Option Addr) (c3 : Nat) (vs : List Dv) (ds : List Dth)
    (hm : CaseM w A0 c0 ops A1 c1 live A2 c2 traps A3 c3 vs ds) (hT : Tabs w) :
    Calls Tryd.prog 8 #[caseV A0 c0 ops.length A1 c1 live.length A2 c2 traps.length A3 c3 vs.length] w fun e w' => e = .returned (.bool true) ∧ Below w.heap.size w w' := by
  have HM := Kp.mk hm
  have HT := Kp.mk hT
  have HMB := Kp.mk (made_beg hm)
  clear hm hT
  obtain ⟨n0, h0⟩ : ∃ n, n = ops.length := ⟨_, rfl⟩
  obtain ⟨n1, h1⟩ : ∃ n, n = live.length := ⟨_, rfl⟩
  obtain ⟨n2, h2⟩ : ∃ n, n = traps.length := ⟨_, rfl⟩
  obtain ⟨n3, h3⟩ : ∃ n, n = vs.length := ⟨_, rfl⟩
  have N := Kp.mk (And.intro h0 (And.intro h1 (And.intro h2 h3)))
  unfold caseV
  rw [← h0, ← h1, ← h2, ← h3] at HMB ⊢
  clear h0 h1 h2 h3
  go_enter Tryd.func8, Tryd.ntmps8
  go_wp2_with fail
  refine HMB.out.mono ?_
  rintro e w2 ⟨p, bm, lm, rm, q, lv, ns, last, rfl, hbg⟩
  have HBG := Kp.mk hbg
  have bx := hbg.box
  rw [← N.out.1, ← N.out.2.1, ← N.out.2.2.1, ← N.out.2.2.2] at bx
  have b1 := blk_c bx 1
  have b2 := blk_c bx 2
  have b3 := blk_c bx 3
  have hsp := spread_all w2 p bm lm rm ns last A1 A2 A3 c1 c2 c3 live traps vs ds hbg.g (by have := hbg.last; omega) hbg.cm.s1 hbg.cm.s2 hbg.cm.s3 hbg.cm.rd (fun w' hc => HT.out.below (chg_below hbg.bel hc (fun g hg => Nat.le_of_lt (hbg.fg g hg)) hbg.bel.size))
    (by have := HM.out.n1; omega) (by have := HM.out.n2; omega) (by have := HM.out.n3; omega) HM.out.cc (fun d hd => by have := (HM.out.n4 d hd).2; omega)
  rw [← N.out.2.1, ← N.out.2.2.1, ← N.out.2.2.2] at hsp
  have HSP := Kp.mk hsp
  have LL : Kp (last ≤ 1000000000000000000) := ⟨by have := hbg.last; omega⟩
  clear hbg bx hsp
  go_wp2_with fail
  refine HSP.out.mono ?_
  rintro e w3 (⟨hw, dv, sv, vs9, us9, rfl, k1, k2, k3, k4, k5⟩ | ⟨hw, rfl, hb⟩)
  rotate_left
  · have G3' := Kp.mk (HBG.out.below hb)
    have heb : (wrongE live traps ds != 0) = true := by simpa using hw
    obtain ⟨er, her⟩ : ∃ er, er = wrongE live traps ds := ⟨_, rfl⟩
    rw [← her] at heb ⊢
    obtain ⟨Aq, cq, hlv, hcq⟩ := G3'.out.d.sh
    obtain ⟨nl, hnl⟩ : ∃ n, n = (sn ns).length := ⟨_, rfl⟩
    have NL := Kp.mk hnl
    rw [← hnl] at hcq hlv
    have HCQ := Kp.mk hcq
    have HLV := Kp.mk hlv
    have hqb : nl ≤ 1024 := by rw [hnl]; exact G3'.out.g.ok.n1024
    clear hw her hb hcq hlv hnl b1 b2 b3
    go_upto_region 6 with fail
    have GD := Kp.mk (G3'.out.below (Below.refl _ _).drew)
    have AT : Kp (w3.drew.cell? ⟨q, 0, none⟩ = some (.slice Aq nl cq)) := ⟨HCQ.out⟩
    have HAL := Kp.mk (all_any GD.out.g LL.out)
    refine R_begin 999 (fun w9 => w9.cell? ⟨q, 0, none⟩ = some (.slice Aq nl cq)) (by kernel_rfl) AT.out (fun HP0 => ?_)
    refine R_pure 0 rfl (by kernel_rfl) HP0 ?_
    apply Exists.intro
    refine ⟨fun _ _ _ h => h, .inl ⟨by kernel_rfl, fun w9 h9 => ?_⟩, fun HP1 => ?_⟩
    · clear h9; go_simp; first | done | rfl
    clear HP0
    refine R_pure 2 rfl (by kernel_rfl) HP1 ?_
    apply Exists.intro
    refine ⟨fun _ _ _ h => h, .inl ⟨by kernel_rfl, fun w9 h9 => ?_⟩, fun HP2 => ?_⟩
    · clear h9; go_simp; first | done | rfl
    clear HP1
    refine R_pure 3 rfl (by kernel_rfl) HP2 ?_
    apply Exists.intro
    refine ⟨fun _ _ _ h => h, .inl ⟨by kernel_rfl, fun w9 h9 => ?_⟩, fun HP3 => ?_⟩
    · clear h9; go_simp; first | done | rfl
    clear HP2
    refine R_pure 4 rfl (by kernel_rfl) HP3 ?_
    apply Exists.intro
    refine ⟨fun _ _ _ h => h, .inl ⟨by kernel_rfl, fun w9 h9 => ?_⟩, fun HP4 => ?_⟩
    · clear h9; go_simp; first | done | rfl
    clear HP3
    refine R_take 5 rfl (by kernel_rfl) HP4 ?_
    apply Exists.intro
    refine ⟨fun _ _ _ h => h, .inl ⟨by kernel_rfl, fun w9 h9 => ?_⟩, fun HP5 => ?_⟩
    · obtain s1 := h9; go_simp; first | done | rfl
    clear HP4
    refine R_all [1] (by kernel_rfl) ?_
    refine AllR.cons (i := 1) rfl (fun K9 HK9 => ?_) ?_
    · go_simp
      refine HAL.out.mono ?_
      rintro e w5 ⟨v5, rfl, o5, f5, b5⟩
      obtain ⟨A5, c5, hv5, _⟩ := o5.shape
      subst hv5
      have G5 := Kp.mk (GD.out.below b5)
      have hl5 : (sn ns).length = nl := NL.out.symm
      have hbo := bonds_any w5 A5 Aq c5 cq (sn ns) (o5.src rfl) (by have h9 := G5.out.d.own.src HLV.out; exact h9) (by omega)
      rw [hl5] at hbo ⊢
      have HBO := Kp.mk hbo
      have AT5 : Kp (w5.cell? ⟨q, 0, none⟩ = some (.slice Aq nl cq)) := ⟨(b5.cell (World.block_lt_of_cell? _ _ AT.out)).trans AT.out⟩
      clear o5 f5 b5 hl5 hbo
      go_simp
      refine HK9.out _ _ (.inr AT5.out) (fun HP6 => ?_)
      clear HK9 K9
      refine R_all [6] (by kernel_rfl) ?_
      refine AllR.cons (i := 6) rfl (fun K9 HK9 => ?_) ?_
      · go_simp
        refine HBO.out.mono ?_
        rintro e w6 ⟨rfl, b6⟩
        have AT6 : Kp (w6.cell? ⟨q, 0, none⟩ = some (.slice Aq nl cq)) := ⟨(b6.cell (World.block_lt_of_cell? _ _ AT5.out)).trans AT5.out⟩
        have G6 := Kp.mk (G5.out.below b6)
        have HAW := Kp.mk (awake_any w6 (HT.out.below G6.out.bel))
        clear b6
        go_simp
        refine HK9.out _ _ (.inr AT6.out) (fun HP7 => ?_)
        clear HK9 K9
        refine R_pure 7 rfl (by kernel_rfl) HP7 ?_
        apply Exists.intro
        refine ⟨fun _ _ _ h => h, .inl ⟨by kernel_rfl, fun w9 h9 => ?_⟩, fun HP8 => ?_⟩
        · clear h9; go_simp; first | done | rfl
        clear HP7
        refine R_all [8] (by kernel_rfl) ?_
        refine AllR.cons (i := 8) rfl (fun K9 HK9 => ?_) ?_
        · go_simp
          refine HAW.out.mono ?_
          rintro e w7 ⟨rfl, b7⟩
          have AT7 : Kp (w7.cell? ⟨q, 0, none⟩ = some (.slice Aq nl cq)) := ⟨(b7.cell (World.block_lt_of_cell? _ _ AT6.out)).trans AT6.out⟩
          have B7 := Kp.mk (G6.out.below b7).bel
          clear b7
          go_simp
          refine HK9.out _ _ (.inr AT7.out) (fun HP9 => ?_)
          clear HK9 K9
          refine R_pure 9 rfl (by kernel_rfl) HP9 ?_
          apply Exists.intro
          refine ⟨fun _ _ _ h => h, .inl ⟨by kernel_rfl, fun w9 h9 => ?_⟩, fun HP10 => ?_⟩
          · clear h9; go_simp; first | done | rfl
          clear HP9
          refine R_pure 10 rfl (by kernel_rfl) HP10 ?_
          apply Exists.intro
          refine ⟨fun _ _ _ h => h, .inl ⟨by kernel_rfl, fun w9 h9 => ?_⟩, fun HP11 => ?_⟩
          · clear h9; go_simp; first | done | rfl
          clear HP10
          refine R_done (by kernel_rfl) ?_
          go_wp2
          go_ret
          exact ⟨rfl, B7.out⟩
        exact AllR.nil
      exact AllR.nil
    exact AllR.nil
  have HW := Kp.mk hw
  obtain ⟨hbel, hcm, hid, hbx⟩ := HBG.out.spread HM.out k5
  have HB3 := Kp.mk hbel
  have HID := Kp.mk hid
  have HSL := Kp.mk (sprd_left (traps := traps) (okr_start hw HBG.out.g.ok))
  obtain ⟨D, hD⟩ : ∃ D, D = (sprd live traps ds ns).1.ds := ⟨_, rfl⟩
  obtain ⟨NS, hNS⟩ : ∃ N, N = (sprd live traps ds ns).2 := ⟨_, rfl⟩
  have hdl : D.length ≤ 1099511627776 := by
    rw [hD]
    unfold sprd
    exact ((okr_start (traps := traps) hw HBG.out.g.ok).rnds (traps := traps) live.length).s.len (wrongE_ok hw).1
  rw [← hD] at k1 HSL
  rw [← hNS] at k4 HSL
  have K1 := Kp.mk k1
  have K4 := Kp.mk k4
  obtain ⟨Dv1, cd, hv, _⟩ := k1.own.shape
  obtain ⟨m, hm⟩ : ∃ m, m = D.length := ⟨_, rfl⟩
  have MM := Kp.mk hm
  rw [k1.len, ← hm] at hv
  subst hv
  rw [← hm] at hdl
  obtain ⟨Aq, cq, hlv, hcq⟩ := hid.sh
  obtain ⟨nl, hnl⟩ : ∃ n, n = (sn ns).length := ⟨_, rfl⟩
  have NL := Kp.mk hnl
  rw [← hnl] at hcq hlv
  subst hlv
  have SQ := Kp.mk (hid.own.src rfl)
  have hqb : nl ≤ 1024 := by rw [hnl]; exact HBG.out.g.ok.n1024
  clear hw k1 k2 k3 k4 k5 hbel hcm hid hbx hm hnl hD hNS b1 b2 b3
  obtain ⟨FB, hFB⟩ : ∃ f : Bd → Bool, f = fun b => !goneB D b := ⟨_, rfl⟩
  have HFB := Kp.mk hFB
  clear hFB
  go_wp2
  go_loopw [8, 10, 11, 13, 51, 57] (fun l _ _ _ i _ wr => ∃ (k : Nat) (B : Option Addr) (mm d : Nat) (L : List Bd), k ≤ nl ∧ i = .int .i64 k ∧ l = .slice B mm d ∧ mm ≤ k ∧ Kp (L.length = mm ∧ L = ((sn ns).take k).filter FB) ∧ Kp (Own wr 59 eBd (.slice B mm d) L) ∧ Kp (Fresh w3 (.slice B mm d)) ∧ Kp (Below w3.heap.size w3 wr)) (fun _ _ _ _ i _ _ => nl - (intOf i).toNat)
  case atStart => exact ⟨0, none, 0, 0, [], Nat.zero_le _, rfl, rfl, Nat.le_refl _, ⟨rfl, rfl⟩, ⟨Own.nil _ _ _⟩, ⟨Fresh.nil _ _ _⟩, ⟨Below.refl _ _⟩⟩
  case round =>
    obtain ⟨k, B, mm, dd, L, hk, rfl, rfl, hmk, HL, HO, HF, HB⟩ := hrel
    by_cases hlt : k < nl
    · obtain ⟨x, hx⟩ : ∃ x, (sn ns)[k]? = some x := ⟨_, List.getElem?_eq_getElem (by have := NL.out; omega)⟩
      obtain ⟨ad, rfl⟩ : ∃ ad, Aq = some ad := by
        cases Aq with
        | none => have h9 := (SQ.out.none rfl).1; rw [h9] at hx; simp at hx
        | some ad => exact ⟨ad, rfl⟩
      obtain ⟨g, o, rfl⟩ := SQ.out.addr (by have := NL.out; omega)
      obtain ⟨a0, a1, a2⟩ := (SQ.out.below HB.out).bd k x hx
      obtain ⟨xa, xb, xr⟩ := x
      simp only at a0 a1 a2
      have HX := Kp.mk hx
      have k0 : (0 : Int) ≤ (k : Int) := by omega
      have k1 : (k : Int) < (nl : Int) := by omega
      have hbx : Below wr.heap.size wr (wr.alloc (.cells #[.int .i64 xa, .int .i64 xb, .int .i64 xr] 59)) := (Below.refl _ _).alloc (Nat.le_refl _) _
      have XX := Kp.mk (blk_new wr (.cells #[.int .i64 xa, .int .i64 xb, .int .i64 xr] 59))
      have HBX := Kp.mk hbx
      clear hx hbx
      go_wp2
      obtain ⟨bb, hbb⟩ : ∃ bb, bb = wr.heap.size := ⟨_, rfl⟩
      rw [← hbb] at XX ⊢
      have BBB := Kp.mk hbb
      obtain ⟨WO, hWO⟩ : ∃ WO, WO = wr.alloc (.cells #[.int .i64 xa, .int .i64 xb, .int .i64 xr] 59) := ⟨_, rfl⟩
      rw [← hWO] at XX HBX ⊢
      have HBO := Kp.mk (bstep HB.out HB.out.size HBX.out)
      clear hbb hWO a0 a1 a2
      go_loopw [11, 13, 57] (fun gb _ i wi => ∃ (j : Nat), j ≤ m ∧ i = .int .i64 j ∧ gb = .bool (goneB (D.take j) ⟨xa, xb, xr⟩) ∧ Kp (Below WO.heap.size WO wi)) (fun _ _ i _ => m - (intOf i).toNat)
      case atStart => exact ⟨0, Nat.zero_le _, rfl, rfl, ⟨Below.refl _ _⟩⟩
      case round =>
        obtain ⟨j, hj, rfl, rfl, HI⟩ := hrel
        obtain ⟨wi, hwi⟩ : ∃ wi : World, wi = wr := ⟨_, rfl⟩
        rw [← hwi] at HI ⊢
        clear hwi
        by_cases hjt : j < m
        · obtain ⟨d, hd⟩ : ∃ d, D[j]? = some d := ⟨_, List.getElem?_eq_getElem (by have := MM.out; omega)⟩
          obtain ⟨y, hy⟩ : ∃ y, vs9[j]? = some y := ⟨_, List.getElem?_eq_getElem (by have := MM.out; have := K1.out.len; omega)⟩
          have hyp := (K1.out.tx j y d hy hd).1
          obtain ⟨ad, rfl⟩ : ∃ ad, Dv1 = some ad := by
            cases Dv1 with
            | none => have h9 := ((K1.out.own.src rfl).none rfl).1; rw [h9] at hy; simp at hy
            | some ad => exact ⟨ad, rfl⟩
          obtain ⟨g2, o2, rfl⟩ := (K1.out.own.src rfl).addr (by have := (List.getElem?_eq_some_iff.1 hy).1; omega)
          have HBI := Kp.mk (bstep HBO.out HBO.out.size HI.out)
          obtain ⟨y0, y1⟩ := ((K1.out.own.src rfl).below HBI.out).dv j y hy
          have hsn := goneB_snoc hd ⟨xa, xb, xr⟩
          rw [← hyp] at hsn
          obtain ⟨yp, yA, yn, yc⟩ := y
          simp only at y0 y1 hsn
          have XI := Kp.mk ((HI.out.block bb (lt_of_block XX.out)).trans XX.out)
          have q0 := blk_c XI.out 0
          have q1 := blk_c XI.out 1
          have lbb := lt_of_block XI.out
          have HSN := Kp.mk hsn
          have j0 : (0 : Int) ≤ (j : Int) := by omega
          have j1 : (j : Int) < (m : Int) := by omega
          have HY2 := Kp.mk ((HI.out.trans (((Below.refl wi.heap.size wi).alloc (Nat.le_refl _) (.cells #[.int .i64 yp, .slice yA yn yc] 48)).mono HI.out.size)))
          clear hy hd hyp hsn
          cases hgb : goneB (D.take j) ⟨xa, xb, xr⟩
          · rw [hgb, Bool.false_or] at HSN
            clear hgb
            by_cases h1 : xa = yp
            · have hb1 : (xa == yp) = true := by simpa using h1
              have HV : Kp (goneB (D.take (j + 1)) ⟨xa, xb, xr⟩ = true) := ⟨by rw [HSN.out]; unfold isOf; exact decide_eq_true (.inl h1)⟩
              clear h1
              go_wp2
              go_roundw
              case rel => exact ⟨j + 1, by omega, by go_num, by rw [HV.out], HY2⟩
              case measure => simp [intOf]; omega
            · have hb1 : (xa == yp) = false := by simpa using h1
              by_cases h2 : xb = yp
              · have hb2 : (xb == yp) = true := by simpa using h2
                have HV : Kp (goneB (D.take (j + 1)) ⟨xa, xb, xr⟩ = true) := ⟨by rw [HSN.out]; unfold isOf; exact decide_eq_true (.inr h2)⟩
                clear h1 h2
                go_wp2
                go_roundw
                case rel => exact ⟨j + 1, by omega, by go_num, by rw [HV.out], HY2⟩
                case measure => simp [intOf]; omega
              · have hb2 : (xb == yp) = false := by simpa using h2
                have HV : Kp (goneB (D.take (j + 1)) ⟨xa, xb, xr⟩ = false) := ⟨by rw [HSN.out]; unfold isOf; exact decide_eq_false (fun h => h.elim h1 h2)⟩
                clear h1 h2
                go_wp2
                go_roundw
                case rel => exact ⟨j + 1, by omega, by go_num, by rw [HV.out], HY2⟩
                case measure => simp [intOf]; omega
          · rw [hgb, Bool.true_or] at HSN
            clear hgb
            go_wp2
            go_roundw
            case rel => exact ⟨j + 1, by omega, by go_num, by rw [HSN.out], HY2⟩
            case measure => simp [intOf]; omega
        · obtain rfl : j = m := by omega
          have hta : D.take j = D := List.take_of_length_le (by have := MM.out; omega)
          rw [hta]
          have XI := Kp.mk ((HI.out.block bb (lt_of_block XX.out)).trans XX.out)
          have HBI := Kp.mk (bstep HBO.out HBO.out.size HI.out)
          have OI := Kp.mk ((HO.out.below HBX.out).below HI.out)
          have HFS := Kp.mk (fil_snoc FB HX.out)
          clear hta
          cases hgb : goneB D ⟨xa, xb, xr⟩
          · have hfb : FB ⟨xa, xb, xr⟩ = true := by rw [HFB.out]; simp [hgb]
            rw [hfb, if_pos rfl] at HFS
            have q0 := blk_c XI.out 0
            have q1 := blk_c XI.out 1
            have q2 := blk_c XI.out 2
            have hmm : L.length = mm := HL.out.1
            have HMM := Kp.mk hmm
            clear hgb hfb hmm
            go_wp2_with (at_builtin; refine app1_ev T27 ⟨xa, xb, xr⟩ rfl _ _ rfl OI.out rfl rfl rfl rfl rfl (by have := HMM.out; omega) (by have := HMM.out; omega) ?_; intro A4 n4 c4 w4 d0 d1 d2 d3; have D0 := d0; have D1 := Kp.mk d1; have D2 := Kp.mk d2; have D3 := Kp.mk d3; clear d0 d1 d2 d3)
            obtain rfl : n4 = mm + 1 := by have h1 := D0.out; have := HMM.out; omega
            go_roundw
            case rel =>
              refine ⟨k + 1, A4, mm + 1, c4, L ++ [⟨xa, xb, xr⟩], by omega, by go_num, rfl, by omega, ⟨by rw [List.length_append, HMM.out]; rfl, by rw [HFS.out, ← HL.out.2]⟩, D1, ⟨HF.out.app HBI.out.size D3.out⟩, ⟨chg_below HBI.out D2.out (fun g hg => HF.out g hg) HBI.out.size⟩⟩
            case measure => simp [intOf]; omega
          · have hfb : ¬ FB ⟨xa, xb, xr⟩ = true := by rw [HFB.out]; simp [hgb]
            rw [if_neg hfb, List.append_nil] at HFS
            clear hgb hfb
            go_wp2
            go_roundw
            case rel => exact ⟨k + 1, B, mm, dd, L, by omega, by go_num, rfl, by omega, ⟨HL.out.1, by rw [HFS.out]; exact HL.out.2⟩, OI, HF, HBI⟩
            case measure => simp [intOf]; omega
    · obtain rfl : k = nl := by omega
      have hL : Kp (L = sn NS) := ⟨by rw [HL.out.2, List.take_of_length_le (by have := NL.out; omega), HSL.out, HFB.out]⟩
      have HAL := Kp.mk (all_any (K4.out.below HB.out) LL.out)
      obtain ⟨wz, rfl⟩ : ∃ wz : World, wz = wr := ⟨_, rfl⟩
      go_wp2_with fail
      refine HAL.out.mono ?_
      rintro e w6 ⟨v6, rfl, o6, f6, b6⟩
      obtain ⟨A6, c6, hv6, _⟩ := o6.shape
      subst hv6
      have HMM : Kp (L.length = mm) := ⟨HL.out.1⟩
      have hl6 : (sn NS).length = mm := by rw [← hL.out]; exact HMM.out
      have hbo := bonds_any w6 A6 B c6 dd (sn NS) (o6.src rfl) (by have h9 := (HO.out.below b6).src rfl; rw [hL.out] at h9; exact h9) (by rw [hl6]; omega)
      rw [hl6] at hbo ⊢
      have HBO := Kp.mk hbo
      have B6 := Kp.mk (bstep HB.out HB.out.size b6)
      clear o6 f6 b6 hbo hl6
      go_wp2_with fail
      refine HBO.out.mono ?_
      rintro e w7 ⟨rfl, b7⟩
      have B7 := Kp.mk (bstep HB3.out HB3.out.size (bstep B6.out B6.out.size b7))
      have HAW := Kp.mk (awake_any w7 (HT.out.below B7.out))
      clear b7
      go_wp2_with (go_at_call 19; refine HAW.out.mono ?_; rintro e w8 ⟨rfl, b8⟩; have B8 := Kp.mk (bstep B7.out B7.out.size b8); clear b8)
      go_ret
      exact ⟨rfl, B8.out⟩
end Go.Proofs.YtameidoaenoppaaDoor
