/- SignalTraps walked: it answers true; bounds stand in the statement. -/
import Derived.Test.YtameidoaenoppaaDoorSk
namespace Go.Proofs.YtameidoaenoppaaDoor
open Go.RowKit

/-- What holds behind the making of a case's graphs. -/
structure Beg (w w2 : World) (A0 : Option Addr) (c0 : Nat) (ops : List OpM) (A1 : Option Addr) (c1 : Nat) (live : List Int) (A2 : Option Addr) (c2 : Nat) (traps : List Int) (A3 : Option Addr) (c3 : Nat) (vs : List Dv) (ds : List Dth)
    (p bm lm rm q : Nat) (lv : Value) (ns : List NB) (last : Int) : Prop where
  cm : CaseM w2 A0 c0 ops A1 c1 live A2 c2 traps A3 c3 vs ds
  g : IsG w2 p bm lm rm ns last
  d : IsD w2 q lv (sn ns)
  fg : ∀ k, FG p bm lm rm k → w.heap.size < k
  fd : ∀ k, FD q lv k → w.heap.size < k
  bel : Below w.heap.size w w2
  box : w2.heap[w.heap.size]? = some (.cells #[.slice A0 ops.length c0, .slice A1 live.length c1, .slice A2 traps.length c2, .slice A3 vs.length c3] 38 (0, 0))
  last : last ≤ 900000000000000000
theorem made_beg {w : World} {A0 : Option Addr} {c0 : Nat} {ops : List OpM} {A1 : Option Addr} {c1 : Nat} {live : List Int} {A2 : Option Addr} {c2 : Nat} {traps : List Int} {A3 : Option Addr} {c3 : Nat} {vs : List Dv} {ds : List Dth} (h : CaseM w A0 c0 ops A1 c1 live A2 c2 traps A3 c3 vs ds) :
    Calls Tryd.prog 21 #[.slice A0 ops.length c0] (w.alloc (.cells #[.slice A0 ops.length c0, .slice A1 live.length c1, .slice A2 traps.length c2, .slice A3 vs.length c3] 38)) fun e w2 =>
      ∃ p bm lm rm q lv ns last, e = .returned (.tuple #[.pointer (some ⟨p, 0, none⟩), .pointer (some ⟨q, 0, none⟩)]) ∧ Beg w w2 A0 c0 ops A1 c1 live A2 c2 traps A3 c3 vs ds p bm lm rm q lv ns last := by
  have hb : Below w.heap.size w (w.alloc (.cells #[.slice A0 ops.length c0, .slice A1 live.length c1, .slice A2 traps.length c2, .slice A3 vs.length c3] 38)) := (Below.refl _ _).alloc (Nat.le_refl _) _
  have h1 := h.below hb
  refine (made_any _ ops A0 c0 h1.s0 (by have := h.n0; omega)).mono ?_
  rintro e w2 ⟨p, bm, lm, rm, q, lv, ns, last, rfl, hT, hl⟩
  have hbe := hT.bel
  refine ⟨p, bm, lm, rm, q, lv, ns, last, rfl, h1.below hbe, hT.g, hT.d, fun k hk => ?_, fun k hk => ?_, bstep hb hb.size hbe, (Chg.of_below hbe NoF).at (blk_new w _) (fun h => h), ?_⟩
  · have := hT.fg k hk; simp at this; omega
  · have := hT.fd k hk; simp at this; omega
  · have := h.n0; omega
section
variable {w w2 w3 : World} {A0 : Option Addr} {c0 : Nat} {ops : List OpM} {A1 : Option Addr} {c1 : Nat} {live : List Int} {A2 : Option Addr} {c2 : Nat} {traps : List Int} {A3 : Option Addr} {c3 : Nat} {vs : List Dv} {ds : List Dth} {p bm lm rm q : Nat} {lv : Value} {ns : List NB} {last : Int}
theorem Beg.below (h : Beg w w2 A0 c0 ops A1 c1 live A2 c2 traps A3 c3 vs ds p bm lm rm q lv ns last) (hb : Below w2.heap.size w2 w3) : Beg w w3 A0 c0 ops A1 c1 live A2 c2 traps A3 c3 vs ds p bm lm rm q lv ns last :=
  ⟨h.cm.below hb, h.g.below hb, h.d.below hb, h.fg, h.fd, bstep h.bel h.bel.size hb, (Chg.of_below hb NoF).at h.box (fun h => h), h.last⟩
/-- What turns no block of the case's, of its graphs or below. -/
theorem Beg.frame {F : Nat → Prop} (h : Beg w w2 A0 c0 ops A1 c1 live A2 c2 traps A3 c3 vs ds p bm lm rm q lv ns last) (h0 : CaseM w A0 c0 ops A1 c1 live A2 c2 traps A3 c3 vs ds) (hc : Chg F w2 w3) (hF : ∀ g, F g → w.heap.size < g) (hg : ∀ g, FG p bm lm rm g → ¬ F g) (hd : ∀ g, FD q lv g → ¬ F g) :
    Beg w w3 A0 c0 ops A1 c1 live A2 c2 traps A3 c3 vs ds p bm lm rm q lv ns last := by
  have hb : Below w.heap.size w w3 := chg_below h.bel hc (fun g hg => Nat.le_of_lt (hF g hg)) h.bel.size
  exact ⟨h0.below hb, ⟨h.g.g.frame hc hg, h.g.ok⟩, h.d.frame hc hd, h.fg, h.fd, hb, hc.at h.box (fun hf => by have := hF _ hf; omega), h.last⟩
/-- What an end of bonds leaves. -/
theorem Beg.spread (h : Beg w w2 A0 c0 ops A1 c1 live A2 c2 traps A3 c3 vs ds p bm lm rm q lv ns last) (h0 : CaseM w A0 c0 ops A1 c1 live A2 c2 traps A3 c3 vs ds) (hc : Chg (FG p bm lm rm) w2 w3) :
    Below w.heap.size w w3 ∧ CaseM w3 A0 c0 ops A1 c1 live A2 c2 traps A3 c3 vs ds ∧ IsD w3 q lv (sn ns) ∧ w3.heap[w.heap.size]? = some (.cells #[.slice A0 ops.length c0, .slice A1 live.length c1, .slice A2 traps.length c2, .slice A3 vs.length c3] 38 (0, 0)) := by
  have hb : Below w.heap.size w w3 := chg_below h.bel hc (fun g hg => Nat.le_of_lt (h.fg g hg)) h.bel.size
  exact ⟨hb, h0.below hb, h.d.frame hc (fun g h1 h2 => apart h.g h.d g h2 h1), hc.at h.box (fun hf => by have := h.fg _ hf; omega)⟩
end
def normR : List Ce := [atomC normalS]
def normDs (ds : List Dth) : List Dth := ds.map (fun d => ⟨d.p, normR⟩)
theorem take_put {ds : List Dth} {k : Nat} {d : Dth} (hd : ds[k]? = some d) : ((normDs (ds.take k)) ++ ds.drop k).set k ⟨d.p, normR⟩ = normDs (ds.take (k + 1)) ++ ds.drop (k + 1) := by
  obtain ⟨hk, rfl⟩ := List.getElem?_eq_some_iff.1 hd
  have hl : (normDs (ds.take k)).length = k := by unfold normDs; rw [List.length_map, List.length_take]; omega
  rw [List.set_append_right _ _ (by omega), hl, Nat.sub_self, List.drop_eq_getElem_cons hk, List.set_cons_zero, List.take_succ_eq_append_getElem hk]
  unfold normDs
  rw [List.map_append, List.append_assoc]
  rfl
theorem at_put {ds : List Dth} {k : Nat} {d : Dth} (hd : ds[k]? = some d) : ((normDs (ds.take k)) ++ ds.drop k)[k]? = some d := by
  obtain ⟨hk, rfl⟩ := List.getElem?_eq_some_iff.1 hd
  have hl : (normDs (ds.take k)).length = k := by unfold normDs; rw [List.length_map, List.length_take]; omega
  rw [List.getElem?_append_right (by omega), hl, Nat.sub_self, List.getElem?_drop]
  exact hd
set_option maxRecDepth 100000 in
set_option maxHeartbeats 16000000 in
theorem signalTraps_any (w : World) (A0 : Option Addr) (c0 : Nat) (ops : List OpM) (A1 : Option Addr) (c1 : Nat) (live : List Int) (A2 : Option Addr) (c2 : Nat) (traps : List Int) (A3 : Option Addr) (c3 : Nat) (vs : List Dv) (ds : List Dth) (normal : Bool)
    (hm : CaseM w A0 c0 ops A1 c1 live A2 c2 traps A3 c3 vs ds) (hT : Tabs w) :
    Calls Tryd.prog 6 #[caseV A0 c0 ops.length A1 c1 live.length A2 c2 traps.length A3 c3 vs.length, .bool normal] w fun e w' => e = .returned (.bool true) ∧ Below w.heap.size w w' := by
  have HM := Kp.mk hm
  have HT := Kp.mk hT
  have HMB := Kp.mk (made_beg hm)
  clear hm hT
  obtain ⟨n0, h0⟩ : ∃ n, n = ops.length := ⟨_, rfl⟩
  obtain ⟨n1, h1⟩ : ∃ n, n = live.length := ⟨_, rfl⟩
  obtain ⟨n2, h2⟩ : ∃ n, n = traps.length := ⟨_, rfl⟩
  obtain ⟨n3, h3⟩ : ∃ n, n = vs.length := ⟨_, rfl⟩
  have N := Kp.mk (And.intro h0 (And.intro h1 (And.intro h2 h3)))
  unfold caseV
  rw [← h0, ← h1, ← h2, ← h3] at HMB ⊢
  clear h0 h1 h2 h3
  have hn3 : n3 ≤ 4398046511000 := by have := HM.out.n3; have := N.out.2.2.2; omega
  go_enter Tryd.func6, Tryd.ntmps6
  go_wp2_with fail
  refine HMB.out.mono ?_
  rintro e w2 ⟨p, bm, lm, rm, q, lv, ns, last, rfl, hbg⟩
  have HBG := Kp.mk hbg
  have bx := hbg.box
  rw [← N.out.1, ← N.out.2.1, ← N.out.2.2.1, ← N.out.2.2.2] at bx
  have b1 := blk_c bx 1
  have b2 := blk_c bx 2
  have b3 := blk_c bx 3
  have HCO := Kp.mk (copied_any w2 A3 c3 vs ds hbg.cm.s3 hbg.cm.rd hbg.cm.n3 hbg.cm.n4)
  rw [← N.out.2.2.2] at HCO
  clear hbg bx
  go_wp2_with fail
  refine HCO.out.mono ?_
  rintro e w3 ⟨v3, us, rfl, k3, bb3⟩
  obtain ⟨A4, c4, hv, hc4, _, _, _⟩ := k3.own.shape
  subst hv
  have LU : Kp (us.length = ds.length) := ⟨k3.len⟩
  have LD : Kp (ds.length = n3) := ⟨by rw [N.out.2.2.2]; exact HM.out.rd.len.symm⟩
  rw [k3.len, LD.out] at k3 hc4 ⊢
  have HF := Kp.mk k3.fir
  have HB3 := Kp.mk (HBG.out.below bb3)
  have HSZ := Kp.mk (HBG.out.bel.size)
  have bx := (HBG.out.below bb3).box
  rw [← N.out.1, ← N.out.2.1, ← N.out.2.2.1, ← N.out.2.2.2] at bx
  have BX := Kp.mk bx
  have b1 := blk_c bx 1
  have b2 := blk_c bx 2
  clear k3 bb3 bx b3
  -- what follows, whichever reasons
  have tail : ∀ (w5 : World) (us' : List Dv) (ds' : List Dth) (T' : Option Addr) (ct nt : Nat) (tr : List Int), FirM w2 w5 (.slice A4 n3 c4) us' ds' → Beg w w5 A0 c0 ops A1 c1 live A2 c2 traps A3 c3 vs ds p bm lm rm q lv ns last →
      ds'.length = n3 → nt = tr.length → Src w5 eI64 T' ct tr → tr.length ≤ 18000000000000 → (∀ d ∈ ds', d.r.length ≤ 9000000000000) → ((∀ d ∈ ds', isA d.r normalS = true) ∨ ∀ q ∈ live, q ∈ tr) →
      Kp (Calls Tryd.prog 20 #[.pointer (some ⟨p, 0, none⟩), .slice A1 n1 c1, .slice T' nt ct, .slice A4 n3 c4] w5 fun e w6 => Below w.heap.size w w6 ∧ ((∃ er : Int, er ≠ 0 ∧ e = .returned (.tuple #[.slice none 0 0, .slice none 0 0, .int .i64 er])) ∨
        (∃ D cd S, e = .returned (.tuple #[.slice D n3 cd, S, .int .i64 0]) ∧ Calls Tryd.prog 27 #[.slice D n3 cd, .slice A4 n3 c4] w6 fun e w' => e = .returned (.bool true) ∧ Below w6.heap.size w6 w'))) := by
    intro w5 us' ds' T' ct nt tr hf hbe hl hnt hst htl hdl hcond
    have hul : us'.length = n3 := hf.len.trans hl
    have hcc : us'.length ≤ c4 := by rw [hul]; exact hc4
    have h9 := spread_all w5 p bm lm rm ns last A1 T' A4 c1 ct c4 live tr us' ds' hbe.g (by have := hbe.last; omega) hbe.cm.s1 hst (hf.own.src rfl) hf.rd (fun w' hc => HT.out.below (chg_below hbe.bel hc (fun g hg => Nat.le_of_lt (hbe.fg g hg)) hbe.bel.size))
      (by have := HM.out.n1; omega) htl (by have := HM.out.n3; have := N.out.2.2.2; omega) hcc hdl
    rw [hul, ← N.out.2.1, ← hnt] at h9
    refine ⟨h9.mono ?_⟩
    rintro e w6 (⟨hw, dv, sv, vs9, us9, rfl, k1, k2, k3, k4, k5⟩ | ⟨hw, rfl, hb⟩)
    · rw [sprd_keep hcond] at k1
      have hbel : Below w.heap.size w w6 := chg_below hbe.bel k5 (fun g hg => Nat.le_of_lt (hbe.fg g hg)) hbe.bel.size
      refine ⟨hbel, .inr ?_⟩
      obtain ⟨D, cd, hv, _⟩ := k1.own.shape
      subst hv
      have hlv : vs9.length = n3 := k1.len.trans hl
      rw [hlv] at k1 ⊢
      have hf6 := hf.frame k5 (offG hbe.g (by decide)) (offG hbe.g (by decide))
      have hrd : RdD w6 vs9 ds' := ⟨k1.len, fun i x d hx hd => ⟨(k1.tx i x d hx hd).1, (k1.tx i x d hx hd).2.1, (k1.tx i x d hx hd).2.2.src rfl⟩⟩
      have h8 := deaths_any w6 D A4 cd c4 vs9 us' ds' (k1.own.src rfl) (hf6.own.src rfl) hrd hf6.rd (by rw [hl]; have := HM.out.n3; have := N.out.2.2.2; omega) hdl
      rw [hlv, hul] at h8
      exact ⟨D, cd, sv, rfl, h8⟩
    · exact ⟨bstep hbe.bel hbe.bel.size hb, .inl ⟨_, hw, rfl⟩⟩
  have TAIL := Kp.mk tail
  clear tail
  cases normal
  · have TT := TAIL.out w3 us ds A1 c1 n1 live HF.out HB3.out LD.out N.out.2.1 HB3.out.cm.s1 (by have := HM.out.n1; omega) (fun d hd => by have := (HM.out.n4 d hd).2; omega) (.inr fun q h => h)
    go_wp2_with fail
    refine TT.out.mono ?_
    rintro e w6 ⟨b6, ⟨er, her, rfl⟩ | ⟨D, cd, S, rfl, hde⟩⟩
    · have HAW := Kp.mk (awake_any w6 (HT.out.below b6))
      have heb : (er != 0) = true := by simpa using her
      have B6 := Kp.mk b6
      clear her b6
      go_wp2_with (go_at_call 19; refine HAW.out.mono ?_; rintro e w7 ⟨rfl, b7⟩; have B7 := Kp.mk b7; clear b7)
      go_ret
      exact ⟨rfl, bstep B6.out B6.out.size B7.out⟩
    · have HDE := Kp.mk hde
      have B6 := Kp.mk b6
      clear hde b6
      go_wp2_with fail
      refine HDE.out.mono ?_
      rintro e w7 ⟨rfl, b7⟩
      have HAW := Kp.mk (awake_any w7 (HT.out.below (bstep B6.out B6.out.size b7)))
      have B7 := Kp.mk (bstep B6.out B6.out.size b7)
      clear b7
      go_wp2_with (go_at_call 19; refine HAW.out.mono ?_; rintro e w8 ⟨rfl, b8⟩; have B8 := Kp.mk b8; clear b8)
      go_ret
      exact ⟨rfl, bstep B7.out B7.out.size B8.out⟩
  · go_wp2
    go_loopw [9, 31] (fun _ i wr => ∃ (k : Nat) (us' : List Dv), k ≤ n3 ∧ i = .int .i64 k ∧ Kp (FirM w2 wr (.slice A4 n3 c4) us' (normDs (ds.take k) ++ ds.drop k)) ∧ Kp (Beg w wr A0 c0 ops A1 c1 live A2 c2 traps A3 c3 vs ds p bm lm rm q lv ns last)) (fun _ i _ => n3 - (intOf i).toNat)
    case atStart => exact ⟨0, us, Nat.zero_le _, rfl, HF, HB3⟩
    case round =>
      clear b1 b2
      obtain ⟨k, us', hk, rfl, F1, G1⟩ := hrel
      by_cases hlt : k < n3
      · have hul : us'.length = n3 := by
          rw [F1.out.len, List.length_append]
          unfold normDs
          rw [List.length_map, List.length_take, List.length_drop]
          have := LD.out
          omega
        obtain ⟨x, hx⟩ : ∃ x, us'[k]? = some x := ⟨_, List.getElem?_eq_getElem (by omega)⟩
        obtain ⟨d, hd⟩ : ∃ d, ds[k]? = some d := ⟨_, List.getElem?_eq_getElem (by have := LD.out; omega)⟩
        have hd2 := at_put hd
        obtain ⟨A', c', hv, h4, h5, h6, h7⟩ := F1.out.own.shape
        rw [hul] at hv
        cases hv
        obtain ⟨g, rfl⟩ : ∃ g, A4 = some ⟨g, 0, none⟩ := by
          cases A4 with
          | none => have h8 := (h6 rfl).1; rw [h8] at hul; simp at hul; omega
          | some a => obtain ⟨g, rfl⟩ := h7 a rfl; exact ⟨g, rfl⟩
        obtain ⟨a0, a1⟩ := (F1.out.own.src rfl).dv k x hx
        rw [Nat.zero_add] at a1
        have fz := F1.out.own.frozen (k * 2 + 1)
        have HX := Kp.mk hx
        have HD := Kp.mk hd
        have HD2 := Kp.mk hd2
        have HUL := Kp.mk hul
        have a1' : ∀ w', Below wr.heap.size wr w' → w'.cell? ⟨g, k * 2 + 1, none⟩ = some (.slice x.A x.n x.c) ∧ w'.frozen? ⟨g, k * 2 + 1, none⟩ = false := fun w' hb => ⟨(hb.cell (World.block_lt_of_cell? _ _ a1)).trans a1, (F1.out.below hb).own.frozen _⟩
        have A1' := Kp.mk a1'
        have k0 : (0 : Int) ≤ (k : Int) := by omega
        have k1 : (k : Int) < (n3 : Int) := by omega
        clear hx hd hd2 a0 a1 a1' h4 h5 h6 h7 fz hul
        go_wp2_with (go_at_call 26; refine (atomL_any _ normalS).mono ?_; rintro e w5 ⟨v5, rfl, o5, f5, b5⟩; obtain ⟨A5, c5, hv5, _, _, h50, h51⟩ := o5.shape; subst hv5; have hl5 : [atomC normalS].length = 1 := rfl; rw [hl5] at o5 f5 ⊢; obtain ⟨q0, q1⟩ := A1'.out _ b5; have O5 := Kp.mk o5; have F5 := Kp.mk f5; have B5 := Kp.mk b5; have H50 := Kp.mk h50; have H51 := Kp.mk h51; clear o5 f5 b5 h50 h51 hl5)
        go_roundw
        case rel =>
          refine ⟨k + 1, us'.set k ⟨x.p, A5, 1, c5⟩, by omega, by go_num, ⟨?_⟩, ⟨?_⟩⟩
          · rw [← take_put HD.out]
            refine F1.out.put B5.out HUL.out.symm HX.out HD2.out ⟨rfl, O5.out.src rfl, ?_⟩
            cases hA : A5 with
            | none => have := (H50.out hA).1; cases this
            | some a =>
              obtain ⟨g5, rfl⟩ := H51.out a hA
              have h9 := O5.out
              rw [hA] at h9
              obtain ⟨cur, hcur⟩ := h9.blk
              exact ⟨g5, cur, rfl, hcur⟩
          · have hgw := F1.out.fr g rfl
            refine (G1.out.below B5.out).frame HM.out (chg_cell w5 g (k * 2 + 1) _) (fun g' hg' => ?_) (fun g' hf hg' => ?_) (fun g' hf hg' => ?_)
            · subst hg'
              have h1 := lt_of_block HBG.out.box
              omega
            · subst hg'
              obtain ⟨cur, hcur⟩ := (F1.out.below B5.out).own.blk
              exact offG (G1.out.below B5.out).g (by decide) _ cur hf hcur
            · subst hg'
              obtain ⟨cur, hcur⟩ := (F1.out.below B5.out).own.blk
              have hd5 := (G1.out.below B5.out).d
              rcases hf with rfl | hf
              · rw [hd5.blk] at hcur; cases hcur
              · obtain ⟨cur', h8⟩ := hd5.own.blk' hf
                rw [h8] at hcur; cases hcur
        case measure => simp [intOf]; omega
      · obtain rfl : k = n3 := by omega
        have hdd : normDs (ds.take k) ++ ds.drop k = normDs ds := by
          rw [List.take_of_length_le (by have := LD.out; omega), List.drop_of_length_le (by have := LD.out; omega), List.append_nil]
        rw [hdd] at F1
        have hln : (normDs ds).length = k := by unfold normDs; rw [List.length_map]; exact LD.out
        have TT := TAIL.out wr us' (normDs ds) A2 c2 n2 traps F1.out G1.out hln N.out.2.2.1 G1.out.cm.s2 (by have := HM.out.n2; omega) (fun d hd => by
          unfold normDs at hd
          obtain ⟨d', _, rfl⟩ := List.mem_map.1 hd
          show normR.length ≤ _
          unfold normR
          simp) (.inl fun d hd => by
          unfold normDs at hd
          obtain ⟨d', _, rfl⟩ := List.mem_map.1 hd
          show isA normR normalS = true
          unfold isA normR
          simp)
        have bx := G1.out.box
        rw [← N.out.1, ← N.out.2.1, ← N.out.2.2.1, ← N.out.2.2.2] at bx
        have b1 := blk_c bx 1
        clear hdd hln bx
        obtain ⟨wz, rfl⟩ : ∃ wz : World, wz = wr := ⟨_, rfl⟩
        go_wp2_with fail
        refine TT.out.mono ?_
        rintro e w6 ⟨b6, ⟨er, her, rfl⟩ | ⟨D, cd, S, rfl, hde⟩⟩
        · have HAW := Kp.mk (awake_any w6 (HT.out.below b6))
          have heb : (er != 0) = true := by simpa using her
          have B6 := Kp.mk b6
          clear her b6
          go_wp2_with (go_at_call 19; refine HAW.out.mono ?_; rintro e w7 ⟨rfl, b7⟩; have B7 := Kp.mk b7; clear b7)
          go_ret
          exact ⟨rfl, bstep B6.out B6.out.size B7.out⟩
        · have HDE := Kp.mk hde
          have B6 := Kp.mk b6
          clear hde b6
          go_wp2_with fail
          refine HDE.out.mono ?_
          rintro e w7 ⟨rfl, b7⟩
          have HAW := Kp.mk (awake_any w7 (HT.out.below (bstep B6.out B6.out.size b7)))
          have B7 := Kp.mk (bstep B6.out B6.out.size b7)
          clear b7
          go_wp2_with (go_at_call 19; refine HAW.out.mono ?_; rintro e w8 ⟨rfl, b8⟩; have B8 := Kp.mk b8; clear b8)
          go_ret
          exact ⟨rfl, bstep B7.out B7.out.size B8.out⟩
end Go.Proofs.YtameidoaenoppaaDoor
