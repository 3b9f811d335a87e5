/- Spread of package signal whatever it is handed; awake of its law answers true; over the tables of unicode/utf8 as laid. -/
import Derived.Test.YtameidoaenoppaaDoorSx
import Derived.Test.YtameidoaenoppaaDoorDa
import Derived.Test.YtameidoaenoppaaDoorDb
namespace Go.Proofs.YtameidoaenoppaaDoor
open Go.RowKit

set_option maxRecDepth 100000 in
set_option maxHeartbeats 1000000 in
theorem spread_nil (w : World) (a b c : Value) : Calls Tryd.prog 20 #[.pointer none, a, b, c] w fun e w' => e = .returned (.tuple #[.slice none 0 0, .slice none 0 0, .int .i64 2]) ∧ w' = w := by
  refine (callsIn_wide (n := 10)).1 ?_
  refine callsIn_of_wp_marks Tryd.func20 rfl trivial ?_ rfl
  simp only [Tryd.ntmps20, List.size_toArray, List.length_cons, List.length_nil, Nat.reduceAdd, Nat.reduceSub, Array.replicate_succ, Array.replicate_zero, List.push_toArray, List.append_toArray, List.nil_append, List.cons_append]
  gi_wp2
  exact ⟨_, results_tmp3 rfl _ _ _, rfl, rfl⟩
/-- What Spread answers, whatever it is handed. -/
def SprAny (w : World) (p bm lm rm : Nat) (live traps : List Int) (ds : List Dth) (ns : List NB) (last : Int) (e : Ending) (w' : World) : Prop :=
  (wrongE live traps ds = 0 ∧ SprPost w p bm lm rm live traps ds ns last e w') ∨
  (wrongE live traps ds ≠ 0 ∧ e = .returned (.tuple #[.slice none 0 0, .slice none 0 0, .int .i64 (wrongE live traps ds)]) ∧ Below w.heap.size w w')
set_option maxRecDepth 100000 in
set_option maxHeartbeats 2000000 in
theorem spread_all (w : World) (p bm lm rm : Nat) (ns : List NB) (last : Int) (A B D : Option Addr) (c1 c2 c3 : Nat) (live traps : List Int) (vs0 : List Dv) (ds : List Dth) (hg : IsG w p bm lm rm ns last) (hla : last ≤ 1000000000000000000)
    (ha : Src w eI64 A c1 live) (hb : Src w eI64 B c2 traps) (hd : Src w eDv D c3 vs0) (hr : RdD w vs0 ds) (hT : ∀ w', Chg (FG p bm lm rm) w w' → Tabs w')
    (hn1 : live.length ≤ 18000000000000) (hn2 : traps.length ≤ 18000000000000) (hn3 : vs0.length ≤ 9000000000000) (hcc : vs0.length ≤ c3) (hn4 : ∀ d ∈ ds, d.r.length ≤ 9000000000000) :
    Calls Tryd.prog 20 #[.pointer (some ⟨p, 0, none⟩), .slice A live.length c1, .slice B traps.length c2, .slice D vs0.length c3] w (SprAny w p bm lm rm live traps ds ns last) := by
  by_cases hw : wrongE live traps ds = 0
  · exact (spread_any w p bm lm rm ns last A B D c1 c2 c3 live traps vs0 ds hg hla ha hb hd hr hT hn1 hn2 hn3 hcc hn4 hw).mono fun e w' h => .inl ⟨hw, h⟩
  · have HW := Kp.mk (wrong_any w A B D c1 c2 c3 live traps vs0 ds ha hb hd hr (hT w (Chg.refl _ w)) (by omega) (by omega) (by omega) hcc hn4)
    have HN := Kp.mk hw
    have he : (wrongE live traps ds != 0) = true := by simpa using hw
    obtain ⟨E, hE⟩ : ∃ E, E = wrongE live traps ds := ⟨_, rfl⟩
    have HE := Kp.mk hE
    rw [← hE] at HW he
    clear hg ha hb hd hr hT hw hE
    have f1 : Fence.wide.fn 42 := trivial
    refine (callsIn_wide (n := 10)).1 ?_
    refine callsIn_of_wp_marks Tryd.func20 rfl trivial ?_ rfl
    simp only [Tryd.ntmps20, List.size_toArray, List.length_cons, List.length_nil, Nat.reduceAdd, Nat.reduceSub, Array.replicate_succ, Array.replicate_zero, List.push_toArray, List.append_toArray, List.nil_append, List.cons_append]
    gi_wp2_with (gi_at_call 42; refine (callsIn_wide.2 HW.out).mono ?_; rintro e w1 ⟨rfl, b1⟩; have B1 := Kp.mk b1; clear b1)
    exact ⟨_, results_tmp3 rfl _ _ _, .inr ⟨HN.out, by rw [HE.out]; rfl, B1.out⟩⟩
set_option maxHeartbeats 1000000 in
theorem atomL_any (w : World) (s : ByteArray) : Calls Tryd.prog 26 #[.string s] w (TxPost w [atomC s]) := by
  go_enter Tryd.func26, Tryd.ntmps26
  go_wp2
  go_ret
  exact ⟨_, rfl, own_lit w eCe 64 _ [atomC s] rfl (by simp [maxLen]) rfl, Fresh.new, (Below.refl _ _).alloc (Nat.le_refl _) _⟩
def boomS : ByteArray := { data := #[98, 111, 111, 109] }
def aw1 : List NB := [(1, ⟨1, 2, 0⟩)]
def aw2 : List NB := [(1, ⟨1, 2, 0⟩), (2, ⟨2, 3, 0⟩)]
def awD : List Dth := [⟨1, [atomC boomS]⟩]
theorem awL1 : linkE [] 1 2 = 0 := by decide
theorem awN1 : linkN [] 0 1 2 = aw1 := by decide
theorem awL2 : linkE aw1 2 3 = 0 := by decide
theorem awN2 : linkN aw1 1 2 3 = aw2 := by decide
theorem awW : wrongE [1, 2, 3] [3] awD = 0 := by decide +kernel
theorem awS : sprd [1, 2, 3] [3] awD aw2 = (⟨[⟨1, [atomC boomS]⟩, ⟨2, [atomC boomS]⟩], [⟨3, exitM 2 [atomC boomS]⟩]⟩, []) := by kernel_rfl
theorem awE : sendE 1 2 [atomC killS] = 0 := by decide +kernel
theorem awK : sendK 1 2 [atomC killS] true = 1 := by decide +kernel
theorem awM : sendL 1 2 [atomC killS] true = [atomC killedS] := by decide +kernel
theorem awI : isA [atomC killedS] killedS = true := by decide +kernel
set_option maxRecDepth 100000 in
set_option maxHeartbeats 8000000 in
theorem awake_any (w : World) (hT : Tabs w) : Calls Tryd.prog 19 #[] w fun e w' => e = .returned (.bool true) ∧ Below w.heap.size w w' := by
  have HT := Kp.mk hT
  clear hT
  go_enter Tryd.func19, Tryd.ntmps19
  go_wp2_with fail
  refine (new_any w).mono ?_
  rintro e w1 ⟨p, bm, lm, rm, rfl, h1, hf, hb1⟩
  have H1 := Kp.mk h1
  have HB1 := Kp.mk hb1
  have HF := Kp.mk hf
  clear h1 hf hb1
  go_wp2_with fail
  refine (link_any _ p bm lm rm [] 0 1 2 H1.out (by decide)).mono ?_
  rintro e w2 ⟨rfl, c2, h2⟩
  have H2 : Kp (IsG w2 p bm lm rm aw1 1) := ⟨by
    rcases h2 with ⟨e, _⟩ | ⟨_, h⟩
    · exact absurd awL1 e
    · rw [awN1] at h; exact h⟩
  have HB2 := Kp.mk (chg_below HB1.out c2 HF.out HB1.out.size)
  rw [awL1]
  clear c2 h2
  go_wp2_with fail
  refine (link_any _ p bm lm rm aw1 1 2 3 H2.out (by decide)).mono ?_
  rintro e w3 ⟨rfl, c3, h3⟩
  have H3 : Kp (IsG w3 p bm lm rm aw2 2) := ⟨by
    rcases h3 with ⟨e, _⟩ | ⟨_, h⟩
    · exact absurd awL2 e
    · rw [awN2] at h; exact h⟩
  have HB3 := Kp.mk (chg_below HB2.out c3 HF.out HB2.out.size)
  rw [awL2]
  clear c3 h3
  go_wp2_with fail
  have o1 := own_lit w3 eI64 2 #[.int .i64 1, .int .i64 2, .int .i64 3] [1, 2, 3] rfl (by simp [maxLen]) rfl
  have o2 := own_lit (w3.alloc (.cells #[.int .i64 1, .int .i64 2, .int .i64 3] 2)) eI64 2 #[.int .i64 3] [3] rfl (by simp [maxLen]) rfl
  rw [World.size_alloc] at o2
  have HB4 := Kp.mk (((HB3.out.alloc HB3.out.size (.cells #[.int .i64 1, .int .i64 2, .int .i64 3] 2)).alloc (by have := HB3.out.size; simp; omega) (.cells #[.int .i64 3] 2)))
  have H4 := Kp.mk (H3.out.below (((Below.refl w3.heap.size w3).alloc (Nat.le_refl _) (.cells #[.int .i64 1, .int .i64 2, .int .i64 3] 2)).alloc (by simp) (.cells #[.int .i64 3] 2)))
  have O1 := Kp.mk (o1.alloc (.cells #[.int .i64 3] 2))
  have O2 := Kp.mk o2
  clear o1 o2
  refine (atomL_any _ boomS).mono ?_
  rintro e w5 ⟨v5, rfl, o5, f5, b5⟩
  obtain ⟨A5, c5, hv, hc5, _⟩ := o5.shape
  subst hv
  have hl5 : [atomC boomS].length = 1 := rfl
  rw [hl5] at o5 hc5 ⊢
  have HB5 := Kp.mk (bstep HB4.out HB4.out.size b5)
  have H5 := Kp.mk (H4.out.below b5)
  have P1 := Kp.mk (O1.out.below b5)
  have P2 := Kp.mk (O2.out.below b5)
  have o6 := own_lit w5 eDv 48 #[.int .i64 1, .slice A5 1 c5] [⟨1, A5, 1, c5⟩] rfl (by simp [maxLen]) rfl
  have hb6 := (Below.refl w5.heap.size w5).alloc (Nat.le_refl _) (.cells #[.int .i64 1, .slice A5 1 c5] 48)
  have HB6 := Kp.mk (bstep HB5.out HB5.out.size hb6)
  have hr6 : RdD (w5.alloc (.cells #[.int .i64 1, .slice A5 1 c5] 48)) [⟨1, A5, 1, c5⟩] awD := ⟨rfl, fun i v d hv hd => by
    cases i with
    | zero => cases hv; cases hd; exact ⟨rfl, rfl, (o5.src rfl).below hb6⟩
    | succ i => simp at hv⟩
  have HSP := Kp.mk (spread_any (w5.alloc (.cells #[.int .i64 1, .slice A5 1 c5] 48)) p bm lm rm aw2 2 _ _ _ 3 1 1 [1, 2, 3] [3] [⟨1, A5, 1, c5⟩] awD (H5.out.below hb6) (by decide) ((P1.out.src rfl).below hb6) ((P2.out.src rfl).below hb6) (o6.src rfl) hr6
    (fun w' hc => HT.out.below (chg_below HB6.out hc HF.out HB6.out.size)) (by decide) (by decide) (by simp) (by simp) (fun d hd => by
      unfold awD at hd
      rw [List.mem_singleton.1 hd]; decide) awW)
  clear o5 f5 b5 o6 hr6 hb6 hc5 hl5
  go_wp2_with fail
  refine HSP.out.mono ?_
  rintro e w7 ⟨dv, sv, vs, us, rfl, k1, k2, k3, k4, k5⟩
  rw [awS] at k1 k2
  simp only at k1 k2
  obtain ⟨A7, c7, hv, _, _, h0, hs1⟩ := k1.own.shape
  obtain ⟨A8, c8, hv', _, _, h0', hs1'⟩ := k2.own.shape
  subst hv
  subst hv'
  have l1 : vs.length = 2 := k1.len
  have l2 : us.length = 1 := k2.len
  obtain ⟨g7, rfl⟩ : ∃ g, A7 = some ⟨g, 0, none⟩ := by
    cases A7 with
    | none => have := (h0 rfl).1; rw [this] at l1; cases l1
    | some y => obtain ⟨g, rfl⟩ := hs1 y rfl; exact ⟨g, rfl⟩
  obtain ⟨g8, rfl⟩ : ∃ g, A8 = some ⟨g, 0, none⟩ := by
    cases A8 with
    | none => have := (h0' rfl).1; rw [this] at l2; cases l2
    | some y => obtain ⟨g, rfl⟩ := hs1' y rfl; exact ⟨g, rfl⟩
  obtain ⟨x7, hx7⟩ : ∃ x, vs[1]? = some x := ⟨_, List.getElem?_eq_getElem (by omega)⟩
  obtain ⟨x8, hx8⟩ : ∃ x, us[0]? = some x := ⟨_, List.getElem?_eq_getElem (by omega)⟩
  have t7 := (k1.tx 1 x7 _ hx7 rfl).1
  have t8 := (k2.tx 0 x8 _ hx8 rfl).1
  have q7 := ((k1.own.src rfl).dv 1 x7 hx7).1
  have q8 := ((k2.own.src rfl).dv 0 x8 hx8).1
  simp only [Nat.zero_mul, Nat.zero_add, Nat.one_mul] at q7 q8
  rw [t7] at q7
  rw [t8] at q8
  rw [l1, l2]
  have HB7 := Kp.mk (chg_below HB6.out k5 HF.out HB6.out.size)
  have Q7 : Kp (∀ w', Below w7.heap.size w7 w' → w'.cell? ⟨g7, 2, none⟩ = some (.int .i64 2) ∧ w'.cell? ⟨g8, 0, none⟩ = some (.int .i64 3)) := ⟨fun w' hb => ⟨(hb.cell (World.block_lt_of_cell? _ _ q7)).trans q7, (hb.cell (World.block_lt_of_cell? _ _ q8)).trans q8⟩⟩
  clear k1 k2 k3 k4 k5 h0 h0' hs1 hs1' l1 l2 hx7 hx8 t7 t8 q7 q8
  go_wp2_with fail
  refine (atomL_any _ killS).mono ?_
  rintro e w9 ⟨v9, rfl, o9, f9, b9⟩
  obtain ⟨A9, c9, hv, _⟩ := o9.shape
  subst hv
  have hl9 : [atomC killS].length = 1 := rfl
  have HS9 := Kp.mk (send_any w9 1 2 true A9 c9 [atomC killS] (o9.src rfl) (by decide) (HT.out.below (bstep HB7.out HB7.out.size b9)))
  rw [awE, awK, awM, hl9] at HS9
  rw [hl9]
  have B9 := Kp.mk b9
  clear o9 f9 b9 hl9
  go_wp2_with fail
  refine HS9.out.mono ?_
  rintro e wa ⟨va, rfl, oa, fa, ba⟩
  obtain ⟨Aa, ca, hv, _⟩ := oa.shape
  subst hv
  have hla : [atomC killedS].length = 1 := rfl
  have HI := Kp.mk (dis_any wa Aa ca [atomC killedS] killedS (oa.src rfl) (by decide))
  rw [awI, hla] at HI
  rw [hla]
  have hba := bstep B9.out B9.out.size ba
  obtain ⟨q7, q8⟩ := Q7.out wa hba
  have HBA := Kp.mk (bstep HB7.out HB7.out.size hba)
  clear oa fa ba hla hba
  go_wp2_with (go_at_call 22; refine HI.out.mono ?_; rintro e wb ⟨rfl, bb⟩; have BB := Kp.mk bb; clear bb)
  go_ret
  exact ⟨rfl, bstep HBA.out HBA.out.size BB.out⟩
end Go.Proofs.YtameidoaenoppaaDoor
