/- What asked of package links's law answers of two graphs that are alike: true; bounds stand in the statement. -/
import Derived.Test.YtlbbheopoflmjaaLo
namespace Go.Proofs.Ytlbbheopoflmjaa
open Go.RowKit

theorem linked_eq {ns : List NB} {last : Int} (h : GOk ns last) (a b : Int) : linked ns a b = decide (twoE a b = 0 ∧ (⟨min a b, max a b, 0⟩ : Bd) ∈ sn ns) := by
  rw [Bool.eq_iff_iff, decide_eq_true_eq]
  constructor
  · intro hl
    have hm : pairB a b ∈ sn ns := by
      have : (look (linksE ns) (min a b, max a b)).isSome = true := hl
      exact (look_isSome_links h a b).1 this
    have hg := h.goodL _ hm
    obtain ⟨⟨g1, g2⟩, ⟨g3, g4⟩, g5⟩ := hg
    simp only [pairB] at g1 g2 g3 g4 g5
    refine ⟨?_, hm⟩
    unfold twoE
    rw [if_pos ⟨⟨by omega, by omega⟩, ⟨by omega, by omega⟩, by omega⟩]
  · rintro ⟨h1, h2⟩
    exact (linked_iff h a b h1).2 h2
set_option maxRecDepth 100000 in
set_option maxHeartbeats 4000000 in
theorem asked_any {w0 w : World} {p bm lm rm q : Nat} {lv : Value} {ns : List NB} {last : Int} (h : Two w0 w p bm lm rm q lv ns last) (hla : last ≤ 900000000000000000) (a b : Int) (ha : In64 a) (hb : In64 b) :
    Calls Try.prog 27 #[.pointer (some ⟨p, 0, none⟩), .pointer (some ⟨q, 0, none⟩), .int .i64 a, .int .i64 b] w fun e w' => e = .returned (.bool true) ∧ Below w.heap.size w w' := by
  have T := Kp.mk h
  have HG := Kp.mk h.g.ok.goodL
  have HN := Kp.mk h.g.ok.n1024
  have HA := Kp.mk ha
  have HBb := Kp.mk hb
  obtain ⟨bb, hbb⟩ : ∃ bb, bb = decide (twoE a b = 0 ∧ (⟨min a b, max a b, 0⟩ : Bd) ∈ sn ns) := ⟨_, rfl⟩
  have HLK : Kp (linked ns a b = bb) := ⟨by rw [hbb]; exact linked_eq h.g.ok a b⟩
  have HBE := Kp.mk hbb
  clear h ha hb hbb
  go_enter Try.func27, Try.ntmps27
  go_wp2_with fail
  refine (of_all T.out.g hla a).mono ?_
  rintro e w1 ⟨v1, rfl, o1, f1, b1⟩
  obtain ⟨A1, c1, hv1, _⟩ := o1.shape
  subst hv1
  have O1 := Kp.mk o1
  have B1 := Kp.mk b1
  clear o1 f1 b1
  go_wp2_with fail
  refine (dof_any _ q lv (sn ns) a (T.out.below B1.out).d (by have := HN.out; omega)).mono ?_
  rintro e w2 ⟨v2, rfl, o2, f2, b2⟩
  obtain ⟨A2, c2, hv2, _⟩ := o2.shape
  subst hv2
  have O2 := Kp.mk o2
  have O12 := Kp.mk (O1.out.below b2)
  have B2 := Kp.mk (bstep B1.out B1.out.size b2)
  clear o2 f2 b2
  go_wp2_with fail
  refine (bonds_eq _ _ A1 A2 c1 c2 (O12.out.src rfl) (O2.out.src rfl) (by have := List.length_filter_le (isOf a) (sn ns); have := HN.out; omega)).mono ?_
  rintro e w3 ⟨rfl, b3⟩
  have B3 := Kp.mk (bstep B2.out B2.out.size b3)
  clear b3
  go_wp2_with fail
  refine (peersC sortC (T.out.below B3.out).g (by omega) a).mono ?_
  rintro e w4 ⟨v4, S, rfl, o4, f4, b4, s4⟩
  obtain ⟨A4, c4, hv4, _⟩ := o4.shape
  subst hv4
  have O4 := Kp.mk o4
  have B4 := Kp.mk (bstep B3.out B3.out.size b4)
  have S4 := Kp.mk s4
  have hSl : S.length ≤ 3000 := by
    have := nodup_len s4.nodup (m := uni (sn ns) a) (fun y hy => Nb.uni a ((s4.2 y).1 hy))
    rw [uni_len] at this
    have := HN.out
    omega
  clear o4 f4 b4 s4
  go_wp2_with fail
  refine (dpeers_any _ q lv (sn ns) a (T.out.below B4.out).d (by have := HN.out; omega) HG.out).mono ?_
  rintro e w5 ⟨v5, S', rfl, o5, f5, b5, s5⟩
  obtain rfl : S' = S := s5.uniq S4.out
  obtain ⟨A5, c5, hv5, _⟩ := o5.shape
  subst hv5
  have O5 := Kp.mk o5
  have O45 := Kp.mk (O4.out.below b5)
  have B5 := Kp.mk (bstep B4.out B4.out.size b5)
  clear o5 f5 b5 s5
  go_wp2_with fail
  refine (pids_eq _ S' A4 A5 c4 c5 (O45.out.src rfl) (O5.out.src rfl) (by omega)).mono ?_
  rintro e w6 ⟨rfl, b6⟩
  have B6 := Kp.mk (bstep B5.out B5.out.size b6)
  clear b6
  go_wp2_with fail
  refine (group_any (T.out.below B6.out).g hla a).mono ?_
  rintro e w7 ⟨v7, G, rfl, o7, f7, b7, g7⟩
  obtain ⟨A7, c7, hv7, _⟩ := o7.shape
  subst hv7
  have O7 := Kp.mk o7
  have B7 := Kp.mk (bstep B6.out B6.out.size b7)
  have G7 : Kp (IsGrp (sn ns) a G) := ⟨g7⟩
  have hGl := uni_mem G a g7
  clear o7 f7 b7 g7
  go_wp2_with fail
  refine (dgroup_any (T.out.below B7.out).d HN.out HG.out a).mono ?_
  rintro e w8 ⟨v8, G', rfl, o8, f8, b8, g8⟩
  obtain rfl : G' = G := IsGrp.uniq g8 G7.out
  obtain ⟨A8, c8, hv8, _⟩ := o8.shape
  subst hv8
  have O8 := Kp.mk o8
  have O78 := Kp.mk (O7.out.below b8)
  have B8 := Kp.mk (bstep B7.out B7.out.size b8)
  clear o8 f8 b8 g8
  go_wp2_with fail
  refine (pids_eq _ G' A7 A8 c7 c8 (O78.out.src rfl) (O8.out.src rfl) (by have := HN.out; omega)).mono ?_
  rintro e w9 ⟨rfl, b9⟩
  have B9 := Kp.mk (bstep B8.out B8.out.size b9)
  clear b9 hGl
  go_wp2_with fail
  refine (linked_any _ p bm lm rm ns last a b (T.out.below B9.out).g HA.out HBb.out).mono ?_
  rintro e w10 ⟨rfl, b10⟩
  have B10 := Kp.mk (bstep B9.out B9.out.size b10)
  rw [HLK.out]
  clear b10
  go_wp2_with fail
  refine (dlinked_any _ q lv (sn ns) a b (T.out.below B10.out).d (by have := HN.out; omega)).mono ?_
  rintro e w11 ⟨rfl, b11⟩
  have B11 := Kp.mk (bstep B10.out B10.out.size b11)
  rw [← HBE.out]
  clear b11
  cases bb
  · go_wp2
    go_ret
    exact ⟨rfl, B11.out⟩
  · go_wp2
    go_ret
    exact ⟨rfl, B11.out⟩
end Go.Proofs.Ytlbbheopoflmjaa
