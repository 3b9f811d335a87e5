/- SignalNil and SignalSends walked: they answer true; bounds stand in the statements. -/
import Derived.Test.YtameidoaenoppaaDoorAw
import Derived.Test.YtameidoaenoppaaDoorDc
namespace Go.Proofs.YtameidoaenoppaaDoor
open Go.RowKit

set_option maxRecDepth 100000 in
set_option maxHeartbeats 2000000 in
theorem signalNil_any (w : World) (v0 v1 v2 v3 : Value) (hT : Tabs w) : Calls Tryd.prog 4 #[.agg #[v0, v1, v2, v3]] w fun e w' => e = .returned (.bool true) ∧ Below w.heap.size w w' := by
  have hb : Below w.heap.size w (w.alloc (.cells #[v0, v1, v2, v3] 38)) := (Below.refl _ _).alloc (Nat.le_refl _) _
  have HA := Kp.mk (awake_any _ (hT.below hb))
  have HB := Kp.mk hb
  clear hT hb
  go_enter Tryd.func4, Tryd.ntmps4
  go_wp2_with (first
    | (go_at_call 20; refine (spread_nil _ _ _ _).mono ?_; rintro e w1 ⟨rfl, hw⟩; obtain rfl := hw.symm; clear hw)
    | (go_at_call 19; refine HA.out.mono ?_; rintro e w2 ⟨rfl, b2⟩; have B2 := Kp.mk b2; clear b2))
  go_ret
  exact ⟨rfl, bstep HB.out HB.out.size B2.out⟩
theorem exitL_len (p : Int) (r : List Ce) : (exitL p r).length ≤ 1030 := by
  unfold exitL
  split
  · exact msg_len _ _ (by simp)
  · simp
theorem downL_len (q p : Int) (r : List Ce) : (downL q p r).length ≤ 1030 := by
  unfold downL
  split
  · exact msg_len _ _ (by simp)
  · simp
theorem sendL_len (a b : Int) (r : List Ce) (t : Bool) : (sendL a b r t).length ≤ 1030 := by
  unfold sendL
  by_cases h : sendE a b r ≠ 0
  · rw [if_pos h]; simp
  · rw [if_neg h]
    have h0 : (rightE r).1 = 0 := by
      unfold sendE at h
      split at h
      · simpa using h
      · exact absurd h (by decide)
    have := (rightE_len h0).2
    split
    · simp
    · split
      · exact msg_len _ _ (by simp)
      · split
        · simp
        · omega
/-- What stands all along while answers are spoilt. -/
structure Bas (w w' : World) (g n c : Nat) (t : List Ce) : Prop where
  l : LentM w' g n c t
  b : Below w.heap.size w w'
  g : w.heap.size ≤ g
section
variable {w w1 w2 : World} {g n c : Nat} {t : List Ce}
theorem Bas.below (h : Bas w w1 g n c t) (hb : Below w1.heap.size w1 w2) : Bas w w2 g n c t := ⟨h.l.below hb, bstep h.b h.b.size hb, h.g⟩
theorem Bas.lt (h : Bas w w1 g n c t) : g < w1.heap.size := (h.l.own.lt rfl)
theorem Bas.spoil {w3 : World} {v : Value} (h0 : Bas w w1 g n c t) (h : Bas w w2 g n c t) (hf : Fresh w1 v) (hc : Chg (fun g => v.ownBlock = some g) w2 w3) : Bas w w3 g n c t :=
  ⟨h.l.frame hc (fun hv => by have h1 := hf g hv; have h2 := h0.lt; omega), chg_below h.b hc (fun g' hg' => by have h1 := hf g' hg'; have h2 := h0.b.size; omega) h.b.size, h.g⟩
end
set_option maxRecDepth 100000 in
set_option maxHeartbeats 8000000 in
theorem signalSends_any (w : World) (a b r : Int) (trap : Bool) (A : Option Addr) (c : Nat) (t : List Ce) (hs : Src w eCe A c t) (hn : t.length ≤ 4398046511000) (hG : TxG t) (hT : Tabs w) :
    Calls Tryd.prog 3 #[.int .i64 a, .int .i64 b, .int .i64 r, .slice A t.length c, .bool trap] w fun e w' => e = .returned (.bool true) ∧ Below w.heap.size w w' := by
  have HS := Kp.mk hs
  have HG := Kp.mk hG
  have HT := Kp.mk hT
  have HN := Kp.mk hn
  obtain ⟨m, hm⟩ : ∃ m, m = t.length := ⟨_, rfl⟩
  have HM := Kp.mk hm
  have HLE := Kp.mk (lent_any w A c t hs hn)
  rw [← hm] at HLE ⊢
  clear hs hG hT hn hm
  go_enter Tryd.func3, Tryd.ntmps3
  go_wp2_with fail
  refine HLE.out.mono ?_
  rintro e w1 ⟨g, n, c1, rfl, l1, g1, b1⟩
  have X1 : Kp (Bas w w1 g n c1 t) := ⟨⟨l1, b1, g1⟩⟩
  obtain rfl : n = m := l1.hn.trans HM.out.symm
  have hsd := send_any w1 a b trap (some ⟨g, 0, none⟩) c1 t l1.src (by have := HN.out; omega) (HT.out.below b1)
  rw [← HM.out] at hsd
  have HSD := Kp.mk hsd
  clear l1 g1 b1 hsd
  obtain ⟨l, hl⟩ : ∃ l, l = sendL a b t trap := ⟨_, rfl⟩
  obtain ⟨k, hk⟩ : ∃ k, k = sendK a b t trap := ⟨_, rfl⟩
  obtain ⟨er, her⟩ : ∃ er, er = sendE a b t := ⟨_, rfl⟩
  have LL : Kp (l.length ≤ 1030) := ⟨by rw [hl]; exact sendL_len a b t trap⟩
  rw [← hl, ← hk, ← her] at HSD
  go_wp2_with fail
  refine HSD.out.mono ?_
  rintro e w2 ⟨v2, rfl, o2, f2, b2⟩
  obtain ⟨A2, c2, hv, _⟩ := o2.shape
  subst hv
  have X2 := Kp.mk (X1.out.below b2)
  have hds := dsend_any w2 a b trap A c t (HS.out.below X2.out.b) (by have := HN.out; omega) HG.out
  rw [← HM.out, ← hl, ← hk, ← her] at hds
  have HDS := Kp.mk hds
  have O2 := Kp.mk o2
  have F2 := Kp.mk f2
  clear o2 f2 b2 hds hl hk her
  go_wp2_with fail
  refine HDS.out.mono ?_
  rintro e w3 ⟨A3, c3, rfl, s3, b3⟩
  have X3 := Kp.mk (X2.out.below b3)
  have O3 := Kp.mk (O2.out.below b3)
  have hsm := same_any w3 A2 A3 c2 c3 l l (O3.out.src rfl) s3 (by have := LL.out; omega)
  rw [decide_eq_true rfl] at hsm
  have HSM := Kp.mk hsm
  clear s3 b3 hsm
  go_wp2_with fail
  refine HSM.out.mono ?_
  rintro e w4 ⟨rfl, b4⟩
  have X4 := Kp.mk (X3.out.below b4)
  have HSP := Kp.mk (spoil_any w4 A2 c2 l (O3.out.below b4) (by have := LL.out; omega))
  clear b4
  go_wp2_with fail
  refine HSP.out.mono ?_
  rintro e w5 ⟨⟨v5, rfl⟩, cc5⟩
  have X5 := Kp.mk (X1.out.spoil X4.out F2.out cc5)
  clear cc5 X1 X2 X3 X4 HSD HDS HSM HSP O2 O3 F2 LL HLE
  obtain ⟨lEX, hlEX⟩ : ∃ l, l = exitL a t := ⟨_, rfl⟩
  obtain ⟨eEX, heEX⟩ : ∃ er, er = exitE a t := ⟨_, rfl⟩
  have LLEX : Kp (lEX.length ≤ 1030) := ⟨by rw [hlEX]; exact exitL_len a t⟩
  have h1EX := exit_any w5 a (some ⟨g, 0, none⟩) c1 t X5.out.l.src (by have := HN.out; omega) (HT.out.below X5.out.b)
  rw [← HM.out, ← hlEX, ← heEX] at h1EX
  have H1EX := Kp.mk h1EX
  clear h1EX
  go_wp2_with fail
  refine H1EX.out.mono ?_
  rintro e w6 ⟨v6, rfl, o6, f6, b6⟩
  obtain ⟨A6, c6, hv, _⟩ := o6.shape
  subst hv
  have X6 := Kp.mk (X5.out.below b6)
  have h2EX := dexit_any w6 a A c t (HS.out.below X6.out.b) (by have := HN.out; omega) HG.out
  rw [← HM.out, ← hlEX, ← heEX] at h2EX
  have H2EX := Kp.mk h2EX
  have O6 := Kp.mk o6
  have F6 := Kp.mk f6
  clear o6 f6 b6 h2EX hlEX heEX
  go_wp2_with fail
  refine H2EX.out.mono ?_
  rintro e w7 ⟨v7, rfl, o7, f7, b7⟩
  obtain ⟨A7, c7, hv, _⟩ := o7.shape
  subst hv
  have X7 := Kp.mk (X6.out.below b7)
  have O7 := Kp.mk (O6.out.below b7)
  have h3EX := same_any w7 A6 A7 c6 c7 lEX lEX (O7.out.src rfl) (o7.src rfl) (by have := LLEX.out; omega)
  rw [decide_eq_true rfl] at h3EX
  have H3EX := Kp.mk h3EX
  clear o7 f7 b7 h3EX
  go_wp2_with fail
  refine H3EX.out.mono ?_
  rintro e w8 ⟨rfl, b8⟩
  have X8 := Kp.mk (X7.out.below b8)
  have H4EX := Kp.mk (spoil_any w8 A6 c6 lEX (O7.out.below b8) (by have := LLEX.out; omega))
  clear b8
  go_wp2_with fail
  refine H4EX.out.mono ?_
  rintro e wa ⟨⟨va, rfl⟩, cca⟩
  have Xa := Kp.mk (X5.out.spoil X8.out F6.out cca)
  clear cca X5 X6 X7 X8 H1EX H2EX H3EX H4EX O6 O7 F6 LLEX
  obtain ⟨lDN, hlDN⟩ : ∃ l, l = downL r b t := ⟨_, rfl⟩
  obtain ⟨eDN, heDN⟩ : ∃ er, er = downE r b t := ⟨_, rfl⟩
  have LLDN : Kp (lDN.length ≤ 1030) := ⟨by rw [hlDN]; exact downL_len r b t⟩
  have h1DN := down_any wa r b (some ⟨g, 0, none⟩) c1 t Xa.out.l.src (by have := HN.out; omega) (HT.out.below Xa.out.b)
  rw [← HM.out, ← hlDN, ← heDN] at h1DN
  have H1DN := Kp.mk h1DN
  clear h1DN
  go_wp2_with fail
  refine H1DN.out.mono ?_
  rintro e wb ⟨vb, rfl, ob, fb, bb⟩
  obtain ⟨Ab, cb, hv, _⟩ := ob.shape
  subst hv
  have Xb := Kp.mk (Xa.out.below bb)
  have h2DN := ddown_any wb r b A c t (HS.out.below Xb.out.b) (by have := HN.out; omega) HG.out
  rw [← HM.out, ← hlDN, ← heDN] at h2DN
  have H2DN := Kp.mk h2DN
  have Ob := Kp.mk ob
  have Fb := Kp.mk fb
  clear ob fb bb h2DN hlDN heDN
  go_wp2_with fail
  refine H2DN.out.mono ?_
  rintro e wc ⟨vc, rfl, oc, fc, bc⟩
  obtain ⟨Ac, cc, hv, _⟩ := oc.shape
  subst hv
  have Xc := Kp.mk (Xb.out.below bc)
  have Oc := Kp.mk (Ob.out.below bc)
  have h3DN := same_any wc Ab Ac cb cc lDN lDN (Oc.out.src rfl) (oc.src rfl) (by have := LLDN.out; omega)
  rw [decide_eq_true rfl] at h3DN
  have H3DN := Kp.mk h3DN
  clear oc fc bc h3DN
  go_wp2_with fail
  refine H3DN.out.mono ?_
  rintro e wd ⟨rfl, bd⟩
  have Xd := Kp.mk (Xc.out.below bd)
  have H4DN := Kp.mk (spoil_any wd Ab cb lDN (Oc.out.below bd) (by have := LLDN.out; omega))
  clear bd
  go_wp2_with fail
  refine H4DN.out.mono ?_
  rintro e wf ⟨⟨vf, rfl⟩, ccf⟩
  have Xf := Kp.mk (Xa.out.spoil Xd.out Fb.out ccf)
  clear ccf Xa Xb Xc Xd H1DN H2DN H3DN H4DN Ob Oc Fb LLDN
  have HK := kept_any wf A g n c1 c t Xf.out.l (HS.out.below Xf.out.b) HN.out
  rw [← HM.out] at HK
  have HK1 := Kp.mk HK
  clear HK
  go_wp2_with fail
  refine HK1.out.mono ?_
  rintro e wg ⟨rfl, bg⟩
  have Xg := Kp.mk (Xf.out.below bg)
  have HAW := Kp.mk (awake_any wg (HT.out.below Xg.out.b))
  clear bg
  go_wp2_with fail
  refine HAW.out.mono ?_
  rintro e wh ⟨rfl, bh⟩
  have BH := Kp.mk (Xg.out.below bh).b
  clear bh
  go_wp2
  go_ret
  exact ⟨rfl, BH.out⟩
end Go.Proofs.YtameidoaenoppaaDoor
