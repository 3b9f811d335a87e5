/- Spread of package signal whatever it is handed; awake of its law answers true; over the tables of unicode/utf8 as laid. Plain: where nobody else ends; rows of deaths whose texts lie in rows of cells; no condition. What lies in memory while the document's Spread runs, and how an end, a message and a death turn it; the plain side of its rounds; no condition. The document's Spread of package signal walked; bounds stand in the statement. What holds behind the making of a case's graphs of package signal's law; no condition. lent, stays, pids, kept and tells of package signal's law walked; bounds stand in the statements. SignalSpreads walked: it answers true; bounds stand in the statement. -/
import Derived.Test.YtameidoaenoppaaGreatDoorSx
import Derived.Test.YtameidoaenoppaaGreatDoorDa
import Derived.Test.YtameidoaenoppaaGreatDoorDb
import Derived.Test.YtameidoaenoppaaGreatDoorMd
import Derived.Test.YtameidoaenoppaaGreatDoorRw
import Derived.Test.YtameidoaenoppaaGreatDoorDe

namespace Go.Proofs.YtameidoaenoppaaGreatDoor
open Go.RowKit

set_option maxRecDepth 100000 in
set_option maxHeartbeats 1000000 in
theorem spread_nil (w : World) (a b c : Value) : Calls Tryz.prog 7 #[.pointer none, a, b, c] w fun e w' => e = .returned (.tuple #[.slice none 0 0, .slice none 0 0, .int .i64 2]) ∧ w' = w := by
  refine (callsIn_wide (n := 10)).1 ?_
  refine callsIn_of_wp_marks Tryz.func7 rfl trivial ?_ rfl
  simp only [Tryz.ntmps7, List.size_toArray, List.length_cons, List.length_nil, Nat.reduceAdd, Nat.reduceSub, Array.replicate_succ, Array.replicate_zero, List.push_toArray, List.append_toArray, List.nil_append, List.cons_append]
  gi_wp2
  exact ⟨_, results_tmp3 rfl _ _ _, rfl, rfl⟩
/-- What Spread answers, whatever it is handed. -/
def SprAny (w : World) (p bm lm rm : Nat) (live traps : List Int) (ds : List Dth) (ns : List NB) (last : Int) (e : Ending) (w' : World) : Prop :=
  (wrongE live traps ds = 0 ∧ SprPost w p bm lm rm live traps ds ns last e w') ∨
  (wrongE live traps ds ≠ 0 ∧ e = .returned (.tuple #[.slice none 0 0, .slice none 0 0, .int .i64 (wrongE live traps ds)]) ∧ Below w.heap.size w w')
set_option maxRecDepth 100000 in
set_option maxHeartbeats 2000000 in
theorem spread_all (w : World) (p bm lm rm : Nat) (ns : List NB) (last : Int) (A B D : Option Addr) (c1 c2 c3 : Nat) (live traps : List Int) (vs0 : List Dv) (ds : List Dth) (hg : IsG w p bm lm rm ns last) (hla : last ≤ 1000000000000000000)
    (ha : Src w eI64 A c1 live) (hb : Src w eI64 B c2 traps) (hd : Src w eDv D c3 vs0) (hr : RdD w vs0 ds) (hT : ∀ w', Chg (FG p bm lm rm) w w' → Tabs w')
    (hn1 : live.length ≤ 18000000000000) (hn2 : traps.length ≤ 18000000000000) (hn3 : vs0.length ≤ 9000000000000) (hcc : vs0.length ≤ c3) (hn4 : ∀ d ∈ ds, d.r.length ≤ 9000000000000) :
    Calls Tryz.prog 7 #[.pointer (some ⟨p, 0, none⟩), .slice A live.length c1, .slice B traps.length c2, .slice D vs0.length c3] w (SprAny w p bm lm rm live traps ds ns last) := by
  by_cases hw : wrongE live traps ds = 0
  · exact (spread_any w p bm lm rm ns last A B D c1 c2 c3 live traps vs0 ds hg hla ha hb hd hr hT hn1 hn2 hn3 hcc hn4 hw).mono fun e w' h => .inl ⟨hw, h⟩
  · have HW := Kp.mk (wrong_any w A B D c1 c2 c3 live traps vs0 ds ha hb hd hr (hT w (Chg.refl _ w)) (by omega) (by omega) (by omega) hcc hn4)
    have HN := Kp.mk hw
    have he : (wrongE live traps ds != 0) = true := by simpa using hw
    obtain ⟨E, hE⟩ : ∃ E, E = wrongE live traps ds := ⟨_, rfl⟩
    have HE := Kp.mk hE
    rw [← hE] at HW he
    clear hg ha hb hd hr hT hw hE
    have f1 : Fence.wide.fn 23 := trivial
    refine (callsIn_wide (n := 10)).1 ?_
    refine callsIn_of_wp_marks Tryz.func7 rfl trivial ?_ rfl
    simp only [Tryz.ntmps7, List.size_toArray, List.length_cons, List.length_nil, Nat.reduceAdd, Nat.reduceSub, Array.replicate_succ, Array.replicate_zero, List.push_toArray, List.append_toArray, List.nil_append, List.cons_append]
    gi_wp2_with (gi_at_call 23; refine (callsIn_wide.2 HW.out).mono ?_; rintro e w1 ⟨rfl, b1⟩; have B1 := Kp.mk b1; clear b1)
    exact ⟨_, results_tmp3 rfl _ _ _, .inr ⟨HN.out, by rw [HE.out]; rfl, B1.out⟩⟩
set_option maxHeartbeats 1000000 in
theorem atomL_any (w : World) (s : ByteArray) : Calls Tryz.prog 42 #[.string s] w (TxPost w [atomC s]) := by
  go_enter Tryz.func42, Tryz.ntmps42
  go_wp2
  go_ret
  exact ⟨_, rfl, own_lit w eCe 63 _ [atomC s] rfl (by simp [maxLen]) rfl, Fresh.new, (Below.refl _ _).alloc (Nat.le_refl _) _⟩
def boomS : ByteArray := { data := #[98, 111, 111, 109] }
def aw1 : List NB := [(1, ⟨1, 2, 0⟩)]
def aw2 : List NB := [(1, ⟨1, 2, 0⟩), (2, ⟨2, 3, 0⟩)]
def awD : List Dth := [⟨1, [atomC boomS]⟩]
theorem awL1 : linkE [] 1 2 = 0 := by decide
theorem awN1 : linkN [] 0 1 2 = aw1 := by decide
theorem awL2 : linkE aw1 2 3 = 0 := by decide
theorem awN2 : linkN aw1 1 2 3 = aw2 := by decide
theorem awW : wrongE [1, 2, 3] [3] awD = 0 := by decide +kernel
theorem awS : sprd [1, 2, 3] [3] awD aw2 = (⟨[⟨1, [atomC boomS]⟩, ⟨2, [atomC boomS]⟩], [⟨3, exitM 2 [atomC boomS]⟩]⟩, []) := by kernel_rfl
theorem awE : sendE 1 2 [atomC killS] = 0 := by decide +kernel
theorem awK : sendK 1 2 [atomC killS] true = 1 := by decide +kernel
theorem awM : sendL 1 2 [atomC killS] true = [atomC killedS] := by decide +kernel
theorem awI : isA [atomC killedS] killedS = true := by decide +kernel
set_option maxRecDepth 100000 in
set_option maxHeartbeats 8000000 in
theorem awake_any (w : World) (hT : Tabs w) : Calls Tryz.prog 16 #[] w fun e w' => e = .returned (.bool true) ∧ Below w.heap.size w w' := by
  have HT := Kp.mk hT
  clear hT
  go_enter Tryz.func16, Tryz.ntmps16
  go_wp2_with fail
  refine (new_any w).mono ?_
  rintro e w1 ⟨p, bm, lm, rm, rfl, h1, hf, hb1⟩
  have H1 := Kp.mk h1
  have HB1 := Kp.mk hb1
  have HF := Kp.mk hf
  clear h1 hf hb1
  go_wp2_with fail
  refine (link_any _ p bm lm rm [] 0 1 2 H1.out (by decide)).mono ?_
  rintro e w2 ⟨rfl, c2, h2⟩
  have H2 : Kp (IsG w2 p bm lm rm aw1 1) := ⟨by
    rcases h2 with ⟨e, _⟩ | ⟨_, h⟩
    · exact absurd awL1 e
    · rw [awN1] at h; exact h⟩
  have HB2 := Kp.mk (chg_below HB1.out c2 HF.out HB1.out.size)
  rw [awL1]
  clear c2 h2
  go_wp2_with fail
  refine (link_any _ p bm lm rm aw1 1 2 3 H2.out (by decide)).mono ?_
  rintro e w3 ⟨rfl, c3, h3⟩
  have H3 : Kp (IsG w3 p bm lm rm aw2 2) := ⟨by
    rcases h3 with ⟨e, _⟩ | ⟨_, h⟩
    · exact absurd awL2 e
    · rw [awN2] at h; exact h⟩
  have HB3 := Kp.mk (chg_below HB2.out c3 HF.out HB2.out.size)
  rw [awL2]
  clear c3 h3
  go_wp2_with fail
  have o1 := own_lit w3 eI64 2 #[.int .i64 1, .int .i64 2, .int .i64 3] [1, 2, 3] rfl (by simp [maxLen]) rfl
  have o2 := own_lit (w3.alloc (.cells #[.int .i64 1, .int .i64 2, .int .i64 3] 2)) eI64 2 #[.int .i64 3] [3] rfl (by simp [maxLen]) rfl
  rw [World.size_alloc] at o2
  have HB4 := Kp.mk (((HB3.out.alloc HB3.out.size (.cells #[.int .i64 1, .int .i64 2, .int .i64 3] 2)).alloc (by have := HB3.out.size; simp; omega) (.cells #[.int .i64 3] 2)))
  have H4 := Kp.mk (H3.out.below (((Below.refl w3.heap.size w3).alloc (Nat.le_refl _) (.cells #[.int .i64 1, .int .i64 2, .int .i64 3] 2)).alloc (by simp) (.cells #[.int .i64 3] 2)))
  have O1 := Kp.mk (o1.alloc (.cells #[.int .i64 3] 2))
  have O2 := Kp.mk o2
  clear o1 o2
  refine (atomL_any _ boomS).mono ?_
  rintro e w5 ⟨v5, rfl, o5, f5, b5⟩
  obtain ⟨A5, c5, hv, hc5, _⟩ := o5.shape
  subst hv
  have hl5 : [atomC boomS].length = 1 := rfl
  rw [hl5] at o5 hc5 ⊢
  have HB5 := Kp.mk (bstep HB4.out HB4.out.size b5)
  have H5 := Kp.mk (H4.out.below b5)
  have P1 := Kp.mk (O1.out.below b5)
  have P2 := Kp.mk (O2.out.below b5)
  have o6 := own_lit w5 eDv 48 #[.int .i64 1, .slice A5 1 c5] [⟨1, A5, 1, c5⟩] rfl (by simp [maxLen]) rfl
  have hb6 := (Below.refl w5.heap.size w5).alloc (Nat.le_refl _) (.cells #[.int .i64 1, .slice A5 1 c5] 48)
  have HB6 := Kp.mk (bstep HB5.out HB5.out.size hb6)
  have hr6 : RdD (w5.alloc (.cells #[.int .i64 1, .slice A5 1 c5] 48)) [⟨1, A5, 1, c5⟩] awD := ⟨rfl, fun i v d hv hd => by
    cases i with
    | zero => cases hv; cases hd; exact ⟨rfl, rfl, (o5.src rfl).below hb6⟩
    | succ i => simp at hv⟩
  have HSP := Kp.mk (spread_any (w5.alloc (.cells #[.int .i64 1, .slice A5 1 c5] 48)) p bm lm rm aw2 2 _ _ _ 3 1 1 [1, 2, 3] [3] [⟨1, A5, 1, c5⟩] awD (H5.out.below hb6) (by decide) ((P1.out.src rfl).below hb6) ((P2.out.src rfl).below hb6) (o6.src rfl) hr6
    (fun w' hc => HT.out.below (chg_below HB6.out hc HF.out HB6.out.size)) (by decide) (by decide) (by simp) (by simp) (fun d hd => by
      unfold awD at hd
      rw [List.mem_singleton.1 hd]; decide) awW)
  clear o5 f5 b5 o6 hr6 hb6 hc5 hl5
  go_wp2_with fail
  refine HSP.out.mono ?_
  rintro e w7 ⟨dv, sv, vs, us, rfl, k1, k2, k3, k4, k5⟩
  rw [awS] at k1 k2
  simp only at k1 k2
  obtain ⟨A7, c7, hv, _, _, h0, hs1⟩ := k1.own.shape
  obtain ⟨A8, c8, hv', _, _, h0', hs1'⟩ := k2.own.shape
  subst hv
  subst hv'
  have l1 : vs.length = 2 := k1.len
  have l2 : us.length = 1 := k2.len
  obtain ⟨g7, rfl⟩ : ∃ g, A7 = some ⟨g, 0, none⟩ := by
    cases A7 with
    | none => have := (h0 rfl).1; rw [this] at l1; cases l1
    | some y => obtain ⟨g, rfl⟩ := hs1 y rfl; exact ⟨g, rfl⟩
  obtain ⟨g8, rfl⟩ : ∃ g, A8 = some ⟨g, 0, none⟩ := by
    cases A8 with
    | none => have := (h0' rfl).1; rw [this] at l2; cases l2
    | some y => obtain ⟨g, rfl⟩ := hs1' y rfl; exact ⟨g, rfl⟩
  obtain ⟨x7, hx7⟩ : ∃ x, vs[1]? = some x := ⟨_, List.getElem?_eq_getElem (by omega)⟩
  obtain ⟨x8, hx8⟩ : ∃ x, us[0]? = some x := ⟨_, List.getElem?_eq_getElem (by omega)⟩
  have t7 := (k1.tx 1 x7 _ hx7 rfl).1
  have t8 := (k2.tx 0 x8 _ hx8 rfl).1
  have q7 := ((k1.own.src rfl).dv 1 x7 hx7).1
  have q8 := ((k2.own.src rfl).dv 0 x8 hx8).1
  simp only [Nat.zero_mul, Nat.zero_add, Nat.one_mul] at q7 q8
  rw [t7] at q7
  rw [t8] at q8
  rw [l1, l2]
  have HB7 := Kp.mk (chg_below HB6.out k5 HF.out HB6.out.size)
  have Q7 : Kp (∀ w', Below w7.heap.size w7 w' → w'.cell? ⟨g7, 2, none⟩ = some (.int .i64 2) ∧ w'.cell? ⟨g8, 0, none⟩ = some (.int .i64 3)) := ⟨fun w' hb => ⟨(hb.cell (World.block_lt_of_cell? _ _ q7)).trans q7, (hb.cell (World.block_lt_of_cell? _ _ q8)).trans q8⟩⟩
  clear k1 k2 k3 k4 k5 h0 h0' hs1 hs1' l1 l2 hx7 hx8 t7 t8 q7 q8
  go_wp2_with fail
  refine (atomL_any _ killS).mono ?_
  rintro e w9 ⟨v9, rfl, o9, f9, b9⟩
  obtain ⟨A9, c9, hv, _⟩ := o9.shape
  subst hv
  have hl9 : [atomC killS].length = 1 := rfl
  have HS9 := Kp.mk (send_any w9 1 2 true A9 c9 [atomC killS] (o9.src rfl) (by decide) (HT.out.below (bstep HB7.out HB7.out.size b9)))
  rw [awE, awK, awM, hl9] at HS9
  rw [hl9]
  have B9 := Kp.mk b9
  clear o9 f9 b9 hl9
  go_wp2_with fail
  refine HS9.out.mono ?_
  rintro e wa ⟨va, rfl, oa, fa, ba⟩
  obtain ⟨Aa, ca, hv, _⟩ := oa.shape
  subst hv
  have hla : [atomC killedS].length = 1 := rfl
  have HI := Kp.mk (dis_any wa Aa ca [atomC killedS] killedS (oa.src rfl) (by decide))
  rw [awI, hla] at HI
  rw [hla]
  have hba := bstep B9.out B9.out.size ba
  obtain ⟨q7, q8⟩ := Q7.out wa hba
  have HBA := Kp.mk (bstep HB7.out HB7.out.size hba)
  clear oa fa ba hla hba
  go_wp2_with (go_at_call 37; refine HI.out.mono ?_; rintro e wb ⟨rfl, bb⟩; have BB := Kp.mk bb; clear bb)
  go_ret
  exact ⟨rfl, bstep HBA.out HBA.out.size BB.out⟩
end Go.Proofs.YtameidoaenoppaaGreatDoor

namespace Go.Proofs.YtameidoaenoppaaGreatDoor
open Go.RowKit

section
variable {live traps : List Int} {d : Dth} {s : SS} {b : Bd}
theorem alive_live {ds : List Dth} {q : Int} (h : aliveB live ds q = true) : q ∈ live := by
  unfold aliveB at h
  rw [Bool.and_eq_true] at h
  exact of_decide_eq_true h.1
theorem bond1_keep (h : isA d.r normalS = true ∨ ∀ q ∈ live, q ∈ traps) : (bond1 live traps d s b).ds = s.ds := by
  unfold bond1
  split
  · rfl
  · rename_i ha
    split
    · rfl
    · split
      · rfl
      · rename_i ht
        split
        · rfl
        · rename_i hn
          rcases h with h | h
          · exact absurd h hn
          · exact absurd (h _ (alive_live (by simpa using ha))) ht
theorem fold_keep (h : isA d.r normalS = true ∨ ∀ q ∈ live, q ∈ traps) : ∀ (l : List Bd) (s : SS), (l.foldl (bond1 live traps d) s).ds = s.ds
  | [], _ => rfl
  | b :: l, s => (fold_keep h l (bond1 live traps d s b)).trans (bond1_keep h)
theorem rnds_keep {ds : List Dth} (ns : List NB) (h : (∀ d ∈ ds, isA d.r normalS = true) ∨ ∀ q ∈ live, q ∈ traps) : ∀ i, (rnds live traps i (⟨ds, []⟩, ns)).1.ds = ds
  | 0 => rfl
  | i + 1 => by
    have ih := rnds_keep ns h i
    show (rnd live traps i (rnds live traps i (⟨ds, []⟩, ns))).1.ds = ds
    unfold rnd
    split
    · exact ih
    · rename_i d hd
      rw [ih] at hd
      exact (fold_keep (h.imp (fun h => h d (List.mem_of_getElem? hd)) (fun h => h)) _ _).trans ih
theorem sprd_keep {ds : List Dth} {ns : List NB} (h : (∀ d ∈ ds, isA d.r normalS = true) ∨ ∀ q ∈ live, q ∈ traps) : (sprd live traps ds ns).1.ds = ds := rnds_keep ns h _
end
theorem Src.blk {α : Type} {E : El α} {w w' : World} {g o c : Nat} {l : List α} (h : Src w E (some ⟨g, o, Option.none⟩) c l) (hb : w'.heap[g]? = w.heap[g]?) : Src w' E (some ⟨g, o, Option.none⟩) c l :=
  ⟨fun ad ha j u hu => by
    cases ha
    have h1 := h.cell _ rfl j u hu
    rw [Addr.add_lit] at h1 ⊢
    unfold World.cell? at h1 ⊢
    simp only at h1 ⊢
    rw [hb]
    exact h1, h.none⟩
/-- A text in a row of cells. -/
structure TxK (w : World) (x : Dv) (r : List Ce) : Prop where
  n : x.n = r.length
  src : Src w eCe x.A x.c r
  at_ : ∃ g cur, x.A = some ⟨g, 0, none⟩ ∧ w.heap[g]? = some (.cells cur 63 (0, 0))
theorem TxK.frame {w w' : World} {x : Dv} {r : List Ce} {F : Nat → Prop} (h : TxK w x r) (hc : Chg F w w') (hF : Off w F 63) : TxK w' x r := by
  obtain ⟨g, cur, h1, h2⟩ := h.at_
  have hb : w'.heap[g]? = w.heap[g]? := hc.block g (lt_of_block h2) (fun hf => hF g cur hf h2)
  refine ⟨h.n, ?_, g, cur, h1, hb.trans h2⟩
  have := h.src
  rw [h1] at this ⊢
  exact this.blk hb
theorem TxK.below {w w' : World} {x : Dv} {r : List Ce} (h : TxK w x r) (hb : Below w.heap.size w w') : TxK w' x r := h.frame (Chg.of_below hb NoF) (fun _ _ h => h.elim)
/-- A row of deaths of one's own, whose texts lie in rows of cells. -/
structure FirM (w0 w : World) (v : Value) (us : List Dv) (ds : List Dth) : Prop where
  own : Own w 48 eDv v us
  len : us.length = ds.length
  tx : ∀ (i : Nat) x d, us[i]? = some x → ds[i]? = some d → x.p = d.p ∧ TxK w x d.r
  fr : Fresh w0 v
section
variable {w0 w w' : World} {v : Value} {us : List Dv} {ds : List Dth}
theorem FirM.rd (h : FirM w0 w v us ds) : RdD w us ds := ⟨h.len, fun i x d hx hd => ⟨(h.tx i x d hx hd).1, (h.tx i x d hx hd).2.n, (h.tx i x d hx hd).2.src⟩⟩
theorem FirM.frame {F : Nat → Prop} (h : FirM w0 w v us ds) (hc : Chg F w w') (h1 : Off w F 48) (h2 : Off w F 63) : FirM w0 w' v us ds :=
  ⟨h.own.frame hc (h.own.off h1), h.len, fun i x d hx hd => ⟨(h.tx i x d hx hd).1, (h.tx i x d hx hd).2.frame hc h2⟩, h.fr⟩
theorem FirM.below (h : FirM w0 w v us ds) (hb : Below w.heap.size w w') : FirM w0 w' v us ds := h.frame (Chg.of_below hb NoF) (fun _ _ h => h.elim) (fun _ _ h => h.elim)
theorem CopM.fir (h : CopM w0 w v us ds) : FirM w0 w v us ds := ⟨h.own, h.len, fun i x d hx hd => by
  obtain ⟨h1, g, h2, h3, _⟩ := h.tx i x d hx hd
  obtain ⟨cur, hcur⟩ := h3.own.blk
  exact ⟨h1, h3.hn, by rw [h2]; exact h3.src, g, cur, h2, hcur⟩, h.fr⟩
/-- Another reason in a place of the row. -/
theorem FirM.put {w1 : World} {g n c : Nat} {k : Nat} {x : Dv} {d : Dth} {r : List Ce} {A : Option Addr} {c1 m : Nat} (h : FirM w0 w (.slice (some ⟨g, 0, none⟩) n c) us ds) (hb : Below w.heap.size w w1) (hn : n = us.length) (hx : us[k]? = some x) (hd : ds[k]? = some d) (ht : TxK w1 ⟨x.p, A, m, c1⟩ r) :
    FirM w0 (w1.setCell ⟨g, k * 2 + 1, none⟩ (.slice A m c1)) (.slice (some ⟨g, 0, none⟩) n c) (us.set k ⟨x.p, A, m, c1⟩) (ds.set k ⟨d.p, r⟩) := by
  have h1 := h.below hb
  obtain ⟨hk, rfl⟩ := List.getElem?_eq_some_iff.1 hx
  obtain ⟨hkd, rfl⟩ := List.getElem?_eq_some_iff.1 hd
  have hc := chg_cell w1 g (k * 2 + 1) (.slice A m c1)
  have off : Off w1 (fun k => k = g) 63 := fun g' cur hg' hcur => by
    obtain ⟨cur', h9⟩ := h1.own.blk
    rw [hg', h9] at hcur; cases hcur
  refine ⟨h1.own.set hn k 1 _ _ hk (by decide) (by simp [eDv]), by rw [List.length_set, List.length_set]; exact h.len, fun i y e hy he => ?_, h.fr⟩
  rw [List.getElem?_set] at hy he
  by_cases hki : k = i
  · subst hki
    rw [if_pos rfl, if_pos hk] at hy
    rw [if_pos rfl, if_pos hkd] at he
    cases hy; cases he
    exact ⟨(h.tx k _ _ hx hd).1, ht.frame hc off⟩
  · rw [if_neg hki] at hy he
    exact ⟨(h1.tx i y e hy he).1, (h1.tx i y e hy he).2.frame hc off⟩
theorem OwnT.fir {vs : List Dv} (h : OwnT w0 w 48 v vs ds) (h1 : ∀ d ∈ ds, 1 ≤ d.r.length) : FirM w0 w v vs ds := ⟨h.own, h.len, fun i x d hx hd => by
  obtain ⟨k1, k2, k3⟩ := h.tx i x d hx hd
  refine ⟨k1, k2, k3.src rfl, ?_⟩
  obtain ⟨A, c, hv, _, _, h5, h6⟩ := k3.shape
  unfold tb at hv k3
  rw [k2] at hv
  cases hv
  cases hA : x.A with
  | none => have := (h5 hA).1; have := h1 d (List.mem_of_getElem? hd); rw [(h5 hA).1] at this; simp at this
  | some a =>
    obtain ⟨g, rfl⟩ := h6 a hA
    rw [hA] at k3
    obtain ⟨cur, hcur⟩ := k3.blk
    exact ⟨g, cur, rfl, hcur⟩, h.fr⟩
end
theorem offG {w : World} {p bm lm rm : Nat} {ns : List NB} {last : Int} (h : IsG w p bm lm rm ns last) {T : TypeId} (hT : T ≠ 87) : Off w (FG p bm lm rm) T := fun g cur hF hg => by
  rcases hF with rfl | rfl | rfl | rfl
  · rw [h.g.blk] at hg; cases hg; exact hT rfl
  · obtain ⟨a, c, hb⟩ := h.g.mb.blk; rw [hb] at hg; cases hg
  · obtain ⟨a, c, hb⟩ := h.g.ml.blk; rw [hb] at hg; cases hg
  · obtain ⟨a, c, hb⟩ := h.g.mr.blk; rw [hb] at hg; cases hg
end Go.Proofs.YtameidoaenoppaaGreatDoor

namespace Go.Proofs.YtameidoaenoppaaGreatDoor
open Go.RowKit

/-- A row of messages of one's own, whose texts lie in rows of cells. -/
structure TelM (w : World) (v : Value) (us : List Dv) (ts : List Dth) : Prop where
  own : Own w 51 eDv v us
  len : us.length = ts.length
  tx : ∀ (i : Nat) x d, us[i]? = some x → ts[i]? = some d → x.p = d.p ∧ TxK w x d.r
section
variable {w w' : World} {v : Value} {us : List Dv} {ts : List Dth} {F : Nat → Prop}
theorem TelM.frame (h : TelM w v us ts) (hc : Chg F w w') (h1 : ∀ g, v.ownBlock = some g → ¬ F g) (h2 : Off w F 63) : TelM w' v us ts :=
  ⟨h.own.frame hc h1, h.len, fun i x d hx hd => ⟨(h.tx i x d hx hd).1, (h.tx i x d hx hd).2.frame hc h2⟩⟩
theorem TelM.below (h : TelM w v us ts) (hb : Below w.heap.size w w') : TelM w' v us ts := h.frame (Chg.of_below hb NoF) (fun _ _ h => h) (fun _ _ h => h.elim)
theorem TelM.rd (h : TelM w v us ts) : RdD w us ts := ⟨h.len, fun i x d hx hd => ⟨(h.tx i x d hx hd).1, (h.tx i x d hx hd).2.n, (h.tx i x d hx hd).2.src⟩⟩
end
structure DSI (wb w0 w : World) (q : Nat) (lv0 lv dv tv : Value) (vs us : List Dv) (s : SS) (L : List Bd) : Prop where
  d : Own w 48 eDv dv vs
  rd : RdD wb vs s.ds
  t : TelM w tv us s.ts
  g : IsD w q lv L
  fr : Fresh w0 dv
  frt : Fresh w0 tv
  chg : Chg (FD q lv0) w0 w
  lvo : ∀ g, lv.ownBlock = some g → lv0.ownBlock = some g ∨ w0.heap.size ≤ g
  qlt : q < w0.heap.size
  bel : Below wb.heap.size wb w
  base : ∀ g, FD q lv0 g → wb.heap.size ≤ g
  wbw : wb.heap.size ≤ w0.heap.size
  frx : ∀ x ∈ us, Fresh w0 (tb x)
section
variable {wb w0 w w1 w2 : World} {q : Nat} {lv0 lv dv tv : Value} {vs us : List Dv} {s : SS} {L : List Bd}
theorem offD {w : World} {q : Nat} {lv : Value} {L : List Bd} (h : IsD w q lv L) {T : TypeId} (h1 : T ≠ 44) (h2 : T ≠ 71) : Off w (FD q lv) T := fun g cur hF hg => by
  rcases hF with rfl | hF
  · rw [h.blk] at hg; cases hg; exact h1 rfl
  · obtain ⟨cur', hc⟩ := h.own.blk' hF
    rw [hc] at hg; cases hg; exact h2 rfl
theorem DSI.below (h : DSI wb w0 w q lv0 lv dv tv vs us s L) (hb : Below w.heap.size w w1) : DSI wb w0 w1 q lv0 lv dv tv vs us s L :=
  ⟨h.d.below hb, h.rd, h.t.below hb, h.g.below hb, h.fr, h.frt, h.chg.trans (Chg.of_below hb NoF) (fun _ _ h => h.elim), h.lvo, h.qlt, bstep h.bel h.bel.size hb, h.base, h.wbw, h.frx⟩
theorem DSI.ended (h : DSI wb w0 w q lv0 lv dv tv vs us s L) {L' : List Bd} (hd : DStep w q lv L' w1) : ∃ lv', DSI wb w0 w1 q lv0 lv' dv tv vs us s L' := by
  obtain ⟨lv', h1, h2, h3⟩ := hd
  refine ⟨lv', h.d.frame h2 (h.d.off (offD h.g (by decide) (by decide))), h.rd, h.t.frame h2 (h.t.own.off (offD h.g (by decide) (by decide))) (offD h.g (by decide) (by decide)), h1, h.fr, h.frt, h.chg.trans h2 (fun g hg hF => ?_), fun g hg => ?_, h.qlt, chg_below h.bel h2 (fun g hF => ?_) h.bel.size, h.base, h.wbw, h.frx⟩
  · rcases hF with rfl | hF
    · exact .inl rfl
    · rcases h.lvo g hF with h9 | h9
      · exact .inr h9
      · omega
  · rcases h3 g hg with h9 | h9
    · exact h.lvo g h9
    · exact .inr (Nat.le_trans h.chg.size h9)
  · rcases hF with rfl | hF
    · exact h.base _ (.inl rfl)
    · rcases h.lvo g hF with h9 | h9
      · exact h.base g (.inr h9)
      · exact Nat.le_trans h.wbw h9
theorem DSI.tell (h : DSI wb w0 w q lv0 lv dv tv vs us s L) {p : Int} {m : List Ce} {A : Option Addr} {c : Nat} {tv' : Value} (hb : Below w.heap.size w w1) (ht : Own w1 63 eCe (.slice A m.length c) m) (hm : 1 ≤ m.length) (hf : Fresh w (.slice A m.length c))
    (h3 : Own w2 51 eDv tv' (us ++ [⟨p, A, m.length, c⟩])) (hc : Chg (fun g => tv.ownBlock = some g) w1 w2) (h4 : tv'.ownBlock = tv.ownBlock ∨ ∃ g, tv'.ownBlock = some g ∧ w1.heap.size ≤ g) :
    DSI wb w0 w2 q lv0 lv dv tv' vs (us ++ [⟨p, A, m.length, c⟩]) { s with ts := s.ts ++ [⟨p, m⟩] } L := by
  have k := h.below hb
  have off : ∀ T : TypeId, T ≠ 51 → Off w1 (fun g => tv.ownBlock = some g) T := fun T t1 g cur hF hg => k.t.own.ne hg (fun e => t1 e.symm) hF
  have o24 := off 63 (by decide)
  have htk : TxK w1 ⟨p, A, m.length, c⟩ m := by
    obtain ⟨A', c', hv, _, _, h5, h6⟩ := ht.shape
    cases hv
    cases A with
    | none => have := (h5 rfl).1; rw [this] at hm; simp at hm
    | some a =>
      obtain ⟨g, rfl⟩ := h6 a rfl
      obtain ⟨cur, hcur⟩ := ht.blk
      exact ⟨rfl, ht.src rfl, g, cur, rfl, hcur⟩
  refine ⟨k.d.frame hc (k.d.off (off _ (by decide))), h.rd, ⟨h3, by rw [List.length_append, List.length_append, h.t.len]; rfl, fun i x d hx hd => ?_⟩, k.g.frame hc (fun g hg hF => ?_), h.fr, h.frt.app (Nat.le_trans h.chg.size hb.size) h4, k.chg.trans hc (fun g hg hF => ?_), h.lvo, h.qlt, chg_below k.bel hc (fun g hF => Nat.le_trans h.wbw (h.frt g hF)) k.bel.size, h.base, h.wbw, fun x hx => ?_⟩
  · rcases Nat.lt_or_ge i us.length with hi | hi
    · rw [List.getElem?_append_left hi] at hx
      rw [List.getElem?_append_left (h.t.len ▸ hi)] at hd
      obtain ⟨a1, a2⟩ := k.t.tx i x d hx hd
      exact ⟨a1, a2.frame hc o24⟩
    · rw [List.getElem?_append_right hi] at hx
      rw [List.getElem?_append_right (h.t.len ▸ hi)] at hd
      obtain ⟨hi1, hx⟩ := List.getElem?_eq_some_iff.1 hx
      obtain ⟨hi2, hd⟩ := List.getElem?_eq_some_iff.1 hd
      simp only [List.length_singleton] at hi1
      simp only [List.getElem_singleton] at hx hd
      subst hx; subst hd
      exact ⟨rfl, htk.frame hc o24⟩
  · rcases hg with rfl | hg
    · exact off _ (by decide) _ _ hF k.g.blk
    · obtain ⟨cur, hcur⟩ := k.g.own.blk' hg
      exact off _ (by decide) _ _ hF hcur
  · have := h.frt g hF; omega
  · rcases List.mem_append.1 hx with hx | hx
    · exact h.frx x hx
    · rw [List.mem_singleton.1 hx]; exact fun g hg => Nat.le_trans h.chg.size (hf g hg)
theorem DSI.die (h : DSI wb w0 w q lv0 lv dv tv vs us s L) {x : Dv} {r : List Ce} {dv' : Value} (hb : Below w.heap.size w w1) (hn : x.n = r.length) (hsr : Src wb eCe x.A x.c r)
    (h3 : Own w2 48 eDv dv' (vs ++ [x])) (hc : Chg (fun g => dv.ownBlock = some g) w1 w2) (h4 : dv'.ownBlock = dv.ownBlock ∨ ∃ g, dv'.ownBlock = some g ∧ w1.heap.size ≤ g) :
    DSI wb w0 w2 q lv0 lv dv' tv (vs ++ [x]) us { s with ds := s.ds ++ [⟨x.p, r⟩] } L := by
  have k := h.below hb
  have off : ∀ T : TypeId, T ≠ 48 → Off w1 (fun g => dv.ownBlock = some g) T := fun T t1 g cur hF hg => k.d.ne hg (fun e => t1 e.symm) hF
  refine ⟨h3, ⟨by rw [List.length_append, List.length_append, h.rd.len]; rfl, fun i y d hy hd => ?_⟩, k.t.frame hc (k.t.own.off (off _ (by decide))) (off _ (by decide)), k.g.frame hc (fun g hg hF => ?_), h.fr.app (Nat.le_trans h.chg.size hb.size) h4, h.frt, k.chg.trans hc (fun g hg hF => ?_), h.lvo, h.qlt, chg_below k.bel hc (fun g hF => Nat.le_trans h.wbw (h.fr g hF)) k.bel.size, h.base, h.wbw, h.frx⟩
  · rcases Nat.lt_or_ge i vs.length with hi | hi
    · rw [List.getElem?_append_left hi] at hy
      rw [List.getElem?_append_left (h.rd.len ▸ hi)] at hd
      exact h.rd.at_ i y d hy hd
    · rw [List.getElem?_append_right hi] at hy
      rw [List.getElem?_append_right (h.rd.len ▸ hi)] at hd
      obtain ⟨hi1, hy⟩ := List.getElem?_eq_some_iff.1 hy
      obtain ⟨hi2, hd⟩ := List.getElem?_eq_some_iff.1 hd
      simp only [List.length_singleton] at hi1
      simp only [List.getElem_singleton] at hy hd
      subst hy; subst hd
      exact ⟨rfl, hn, hsr⟩
  · rcases hg with rfl | hg
    · exact off _ (by decide) _ _ hF k.g.blk
    · obtain ⟨cur, hcur⟩ := k.g.own.blk' hg
      exact off _ (by decide) _ _ hF hcur
  · have := h.fr g hF; omega
end
theorem bond1_all {live traps : List Int} {d : Dth} {s : SS} {b : Bd} (P : List Ce → Prop) (hd : P d.r) (h : ∀ e ∈ s.ds, P e.r) : ∀ e ∈ (bond1 live traps d s b).ds, P e.r := by
  unfold bond1
  split
  · exact h
  · split
    · exact h
    · split
      · exact h
      · split
        · exact h
        · intro e he
          rcases List.mem_append.1 he with he | he
          · exact h e he
          · rw [List.mem_singleton.1 he]; exact hd
theorem fold_all {live traps : List Int} {d : Dth} (P : List Ce → Prop) (hd : P d.r) : ∀ (l : List Bd) (s : SS), (∀ e ∈ s.ds, P e.r) → ∀ e ∈ (l.foldl (bond1 live traps d) s).ds, P e.r
  | [], _, h => h
  | _ :: l, _, h => fold_all P hd l _ (bond1_all P hd h)
theorem rnds_all {live traps : List Int} {st : St} (P : List Ce → Prop) (h : ∀ e ∈ st.1.ds, P e.r) : ∀ i, ∀ e ∈ (rnds live traps i st).1.ds, P e.r
  | 0 => h
  | i + 1 => by
    have ih := rnds_all (live := live) (traps := traps) P h i
    show ∀ e ∈ (rnd live traps i (rnds live traps i st)).1.ds, P e.r
    unfold rnd
    split
    · exact ih
    · rename_i d hd
      exact fold_all P (ih d (List.mem_of_getElem? hd)) _ _ ih
theorem live_pidz {live : List Int} (h : badP live = false) {x : Int} (hx : x ∈ live) : IsPid x := by
  obtain ⟨i, hi⟩ := List.mem_iff_getElem?.1 hx
  exact badP_pid h hi
theorem okr_startz {live traps : List Int} {ds : List Dth} {ns : List NB} {last : Int} (hw : wrongE live traps ds = 0) (hg : GOk ns last) : OkR live (ds.length + ns.length) (⟨ds, []⟩, ns) last :=
  ⟨⟨(wrongE_ok hw).2.2.2.2.1, (wrongE_ok hw).2.2.2.2.2, (wrongE_ok hw).2.2.2.1⟩, hg, by simp⟩
/-- The other one, as the document reckons it. -/
theorem other_sum {p : Int} {b : Bd} (ho : isOf p b = true) : b.a + b.b - p = otherP p b := by
  unfold isOf at ho
  have ho := of_decide_eq_true ho
  unfold otherP
  by_cases h : b.a = p
  · rw [if_pos h]; omega
  · rw [if_neg h]; have := ho.resolve_left h; omega
theorem other_from {p : Int} {b : Bd} (h0 : b.r ≠ 0) (ht : tells p b = true) : b.a = otherP p b := by
  unfold tells at ht
  have ht := of_decide_eq_true ht
  have := ht.resolve_left h0
  unfold otherP
  rw [if_neg this.2]
theorem alive_hasV {w : World} {live : List Int} {vs : List Dv} {ds : List Dth} (h : RdD w vs ds) (q : Int) : aliveB live ds q = (decide (q ∈ live) && !hasV vs q) := by
  have h1 := has_vd h vs.length q
  rw [List.take_length, List.take_of_length_le (by unfold pids; rw [List.length_map, h.len]; exact Nat.le_refl _)] at h1
  unfold aliveB
  rw [h1]
end Go.Proofs.YtameidoaenoppaaGreatDoor

namespace Go.Proofs.YtameidoaenoppaaGreatDoor
open Go.RowKit

def DSprPost (wb w : World) (q : Nat) (lv : Value) (live traps : List Int) (ds : List Dth) (ns : List NB) (e : Ending) (w' : World) : Prop :=
  ∃ dv tv vs us lv', e = .returned (.tuple #[dv, tv, .int .i64 0]) ∧ DSI wb w w' q lv lv' dv tv vs us (sprd live traps ds ns).1 (sn (sprd live traps ds ns).2)
theorem exitM_len1 (p : Int) (r : List Ce) : 1 ≤ (exitM p r).length ∧ (exitM p r).length ≤ 1030 := ⟨by unfold exitM msg; simp, msg_len _ _ (by simp)⟩
theorem downM_len1 (q p : Int) (r : List Ce) : 1 ≤ (downM q p r).length ∧ (downM q p r).length ≤ 1030 := ⟨by unfold downM msg; simp, msg_len _ _ (by simp)⟩
theorem TTz : SlT Tryz.prog 33 51 eDv 32 := SlT.mk' (k := 2) (z := .agg #[.int .i64 0, .slice none 0 0]) Tryz.underlying33 (by kernel_rfl) rfl rfl
set_option maxRecDepth 100000 in
set_option maxHeartbeats 16000000 in
theorem dspread_any (wb w : World) (hbw : Below wb.heap.size wb w) (q : Nat) (lv : Value) (ns : List NB) (last : Int) (A B D : Option Addr) (c1 c2 c3 : Nat) (live traps : List Int) (vs0 : List Dv) (ds : List Dth) (hq : IsD w q lv (sn ns)) (hbase : ∀ g, FD q lv g → wb.heap.size ≤ g) (hg : GOk ns last)
    (ha : Src wb eI64 A c1 live) (hb : Src wb eI64 B c2 traps) (hd : Src wb eDv D c3 vs0) (hr : RdD wb vs0 ds) (hG : ∀ d ∈ ds, TxG d.r)
    (hn1 : live.length ≤ 2000000) (hn2 : traps.length ≤ 2000000) (hn3 : vs0.length ≤ 2000000) (hcc : vs0.length ≤ c3) (hn4 : ∀ d ∈ ds, d.r.length ≤ 9000000000000) (hw : wrongE live traps ds = 0) :
    Calls Tryz.prog 8 #[.pointer (some ⟨q, 0, none⟩), .slice A live.length c1, .slice B traps.length c2, .slice D vs0.length c3] w (DSprPost wb w q lv live traps ds ns) := by
  have HWR := dwrong_any w A B D c1 c2 c3 live traps vs0 ds (ha.below hbw) (hb.below hbw) (hd.below hbw) (hr.below hbw) hG hn1 hn2 hn3 hcc hn4
  rw [hw] at HWR
  have HW := Kp.mk HWR
  have HOK := Kp.mk (wrongE_ok hw)
  have HQ := Kp.mk hq
  have HBW := Kp.mk hbw
  have HBS := Kp.mk hbase
  have HL := Kp.mk ha
  have HTR := Kp.mk hb
  have HD := Kp.mk hd
  have HR := Kp.mk hr
  have HN1 := Kp.mk hn1
  have HN2 := Kp.mk hn2
  have HGK := Kp.mk hg
  obtain ⟨st, hst⟩ : ∃ st : St, st = (⟨ds, []⟩, ns) := ⟨_, rfl⟩
  have ST := Kp.mk hst
  have OR : Kp (∀ i, OkR live (ds.length + ns.length) (rnds live traps i st) last) := ⟨fun i => by rw [hst]; exact (okr_startz hw hg).rnds i⟩
  have TG : Kp (∀ i, ∀ e ∈ (rnds live traps i st).1.ds, TxG e.r) := ⟨fun i => rnds_all TxG (by rw [hst]; exact hG) i⟩
  obtain ⟨n1, h1⟩ : ∃ n, n = live.length := ⟨_, rfl⟩
  obtain ⟨n2, h2⟩ : ∃ n, n = traps.length := ⟨_, rfl⟩
  obtain ⟨n3, h3⟩ : ∃ n, n = vs0.length := ⟨_, rfl⟩
  have N := Kp.mk (And.intro h1 (And.intro h2 h3))
  have NL : Kp (vs0.length ≤ 2000000) := ⟨hn3⟩
  rw [← h1, ← h2, ← h3] at HW ⊢
  clear hbw hbase hq hg ha hb hd hr hG hn1 hn2 hn3 hcc hn4 hw HWR hst h1 h2 h3
  go_enter Tryz.func8, Tryz.ntmps8
  go_wp2_with fail
  refine HW.out.mono ?_
  rintro e w1 ⟨rfl, b1⟩
  have hown : Own w1 48 eDv (.slice none 0 0) [] := Own.nil _ _ _
  have hs1 := HD.out.below (bstep HBW.out HBW.out.size b1)
  have B1 := Kp.mk b1
  clear b1
  go_upto_region 7 with (at_builtin; refine app_ev TDv rfl _ _ rfl hown rfl hs1 N.out.2.2 rfl (by simp only [List.length_nil]; have := NL.out; omega) (by simp only [List.length_nil]; have := NL.out; omega) ?_; intro A1 q1 k1 w2 a0 a1 a2 a3; rw [List.nil_append] at a1; have A1' := Kp.mk a1; have A2' := Kp.mk a2; have A3' := Kp.mk a3; have A0' := a0; clear a1 a2 a3)
  obtain rfl : q1 = n3 := by have h1 := A0'.out; simp only [List.length_nil] at h1; have := N.out.2.2; omega
  have HB2 : Kp (Below w.heap.size w w2) := ⟨chg_below B1.out A2'.out (fun g hg => by cases hg) B1.out.size⟩
  have D0 : Kp (DSI wb w w2 q lv lv (.slice A1 q1 k1) (.slice none 0 0) vs0 [] (rnds live traps 0 st).1 (sn (rnds live traps 0 st).2)) := ⟨by
    rw [ST.out]
    exact ⟨A1'.out, HR.out, ⟨Own.nil _ _ _, rfl, fun i x d h => (by simp at h)⟩, HQ.out.below HB2.out, ((Fresh.nil w1 0 0).app (Nat.le_refl _) A3'.out).up B1.out.size, Fresh.nil _ _ _, Chg.of_below HB2.out _, fun g hg => .inl hg, HQ.out.lt, bstep HBW.out HBW.out.size HB2.out, HBS.out, HBW.out.size, fun x hx => (by cases hx)⟩⟩
  have LN : Kp (q1 = vs0.length) := ⟨N.out.2.2⟩
  clear hown hs1 A0' A1' A2' A3'
  go_wp2
  go_loopw [12, 13, 14] (fun dvs tvs iv wr => ∃ (i : Nat) (Dd Tt : Option Addr) (nd cd nt ct : Nat) (lv1 : Value) (vs us : List Dv), i ≤ (rnds live traps i st).1.ds.length ∧ iv = .int .i64 i ∧ dvs = .slice Dd nd cd ∧ tvs = .slice Tt nt ct ∧ Kp (nd = vs.length ∧ nt = us.length) ∧
    Kp (DSI wb w wr q lv lv1 (.slice Dd nd cd) (.slice Tt nt ct) vs us (rnds live traps i st).1 (sn (rnds live traps i st).2))) (fun _ _ iv _ => n1 - (intOf iv).toNat)
  case atStart => exact ⟨0, A1, none, q1, k1, 0, 0, lv, vs0, [], Nat.zero_le _, rfl, rfl, rfl, ⟨LN.out, rfl⟩, D0⟩
  case round =>
    clear D0
    obtain ⟨i, Dd, Tt, nd, cd, nt, ct, lv1, vs, us, hi, rfl, rfl, rfl, NN, HS⟩ := hrel
    have hnd : nd = (rnds live traps i st).1.ds.length := NN.out.1.trans HS.out.rd.len
    have hnl : nd ≤ n1 := by rw [hnd, N.out.1]; exact (OR.out i).s.le
    have hi2 : i ≤ nd := by rw [hnd]; exact hi
    have HND := Kp.mk hnd
    have hn1b : n1 ≤ 2000000 := by rw [N.out.1]; exact HN1.out
    clear hnd hi
    by_cases hlt : i < nd
    · obtain ⟨x, hx⟩ : ∃ x, vs[i]? = some x := ⟨_, List.getElem?_eq_getElem (by have := NN.out.1; omega)⟩
      obtain ⟨d, hdk⟩ : ∃ d, (rnds live traps i st).1.ds[i]? = some d := ⟨_, List.getElem?_eq_getElem (by have := HND.out; omega)⟩
      obtain ⟨p1, p2, p3⟩ := HS.out.rd.at_ i x d hx hdk
      obtain ⟨xp, xA, xn, xc⟩ := x
      obtain ⟨dp, dr⟩ := d
      simp only at p1 p2 p3
      subst p1; subst p2
      obtain ⟨ad, rfl⟩ : ∃ ad, Dd = some ad := by
        cases Dd with
        | none => have h9 := ((HS.out.d.src rfl).none rfl).1; rw [h9] at hx; simp at hx
        | some ad => exact ⟨ad, rfl⟩
      obtain ⟨g, o, rfl⟩ := (HS.out.d.src rfl).addr (by have := (List.getElem?_eq_some_iff.1 hx).1; omega)
      obtain ⟨a0, a1⟩ := (HS.out.d.src rfl).dv i _ hx
      simp only at a0 a1
      have hdm := List.mem_of_getElem? hdk
      have HDK := Kp.mk hdk
      have SRC := Kp.mk p3
      have HRT := Kp.mk ((OR.out i).s.right _ hdm)
      have HTX := Kp.mk (TG.out i _ hdm)
      have HIP : Kp (IsPid xp) := ⟨live_pidz HOK.out.1 ((OR.out i).s.live _ hdm)⟩
      have k0 : (0 : Int) ≤ (i : Int) := by omega
      have k1 : (i : Int) < (nd : Int) := by omega
      have hbx : Below wr.heap.size wr (wr.alloc (.cells #[.int .i64 xp, .slice xA dr.length xc] 48)) := (Below.refl _ _).alloc (Nat.le_refl _) _
      have HSX := Kp.mk (HS.out.below hbx)
      have XB := Kp.mk (blk_new wr (.cells #[.int .i64 xp, .slice xA dr.length xc] 48))
      have HEN := Kp.mk (dend_any _ q lv1 _ xp HSX.out.g (by have := (OR.out i).g.n1024; omega) (decide_eq_true HIP.out))
      have DNE : Kp ((Value.slice (some ⟨g, o, none⟩) nd cd).ownBlock ≠ some wr.heap.size) := ⟨fun h => by have := HS.out.d.lt h; omega⟩
      obtain ⟨bd, hbd⟩ : ∃ bd, bd = wr.heap.size := ⟨_, rfl⟩
      rw [← hbd] at XB DNE
      have BD := Kp.mk hbd
      obtain ⟨rl, hrl⟩ : ∃ rl, rl = dr.length := ⟨_, rfl⟩
      have RL := Kp.mk hrl
      rw [← hrl] at a1 XB HEN HSX
      have hbnd : rl ≤ 1024 := by rw [hrl]; exact (rightE_len HRT.out).2
      clear hx hdk hdm p3 hbx hbd hrl
      go_wp2_with fail
      refine HEN.out.mono ?_
      rintro e w4 ⟨v4, rfl, o4, f4, s4⟩
      obtain ⟨lv2, hS4⟩ := HSX.out.ended s4
      obtain ⟨lv2', h42, c42, _⟩ := s4
      have X4 := Kp.mk (c42.at XB.out (fun hF => by
        rcases hF with h | h
        · have h1 := HS.out.qlt; have h2 := HS.out.chg.size; have := BD.out; omega
        · have h1 := HS.out.g.own.lt h; have := BD.out; omega))
      obtain ⟨A4, c4, hv4, _⟩ := o4.shape
      subst hv4
      obtain ⟨tl, htl⟩ : ∃ tl, tl = told xp (sn (rnds live traps i st).2) := ⟨_, rfl⟩
      rw [← htl] at o4 ⊢
      obtain ⟨m, hm⟩ : ∃ m, m = tl.length := ⟨_, rfl⟩
      rw [← hm] at o4 ⊢
      have TLK := Kp.mk htl
      have MK := Kp.mk hm
      have hmb : m ≤ 1024 := by rw [hm, htl]; have := told_len xp (sn (rnds live traps i st).2); have := (OR.out i).g.n1024; omega
      have O4 := Kp.mk o4
      have HS4 := Kp.mk hS4
      clear o4 f4 h42 c42 hS4 htl hm a0 a1
      rw [← BD.out]
      go_wp2
      go_loopw [12, 13, 54] (fun dvs tvs jv wi => ∃ (j : Nat) (De Te : Option Addr) (ne ce nu cu : Nat) (ys zs : List Dv), j ≤ m ∧ jv = .int .i64 j ∧ dvs = .slice De ne ce ∧ tvs = .slice Te nu cu ∧ Kp (ne = ys.length ∧ nu = zs.length) ∧ Kp ((Value.slice De ne ce).ownBlock ≠ some bd) ∧
        Kp (wi.heap[bd]? = some (.cells #[.int .i64 xp, .slice xA rl xc] 48 (0, 0))) ∧ Kp (Own wi 71 eBd (.slice A4 m c4) tl) ∧
        Kp (DSI wb w wi q lv lv2 (.slice De ne ce) (.slice Te nu cu) ys zs ((tl.take j).foldl (bond1 live traps ⟨xp, dr⟩) (rnds live traps i st).1) (leftL xp (sn (rnds live traps i st).2)))) (fun _ _ jv _ => m - (intOf jv).toNat)
      case atStart => exact ⟨0, _, Tt, nd, cd, nt, ct, vs, us, Nat.zero_le _, rfl, rfl, rfl, NN, DNE, X4, O4, HS4⟩
      case round =>
        clear HS4 O4 X4
        obtain ⟨j, De, Te, ne, ce, nu, cu, ys, zs, hj, rfl, rfl, rfl, NE, DE, XJ, OJ, HJ⟩ := hrel
        obtain ⟨wi, hwi⟩ : ∃ wi : World, wi = wr := ⟨_, rfl⟩
        rw [← hwi] at XJ OJ HJ ⊢
        clear hwi
        obtain ⟨S, hS⟩ : ∃ S, S = (tl.take j).foldl (bond1 live traps ⟨xp, dr⟩) (rnds live traps i st).1 := ⟨_, rfl⟩
        rw [← hS] at HJ
        have SE := Kp.mk hS
        have hSo : OkS live S := by rw [hS]; exact OkS.fold HRT.out _ _ (OR.out i).s
        have hSl : S.ds.length ≤ n1 := by rw [N.out.1]; exact hSo.le
        have hSt : S.ts.length ≤ 6000000 := by
          rw [hS]
          have h1 := (fold_grow live traps ⟨xp, dr⟩ (tl.take j) (rnds live traps i st).1).2.2
          have h2 := (OR.out i).len
          have h3 := HGK.out.len
          have h4 : (tl.take j).length ≤ m := by rw [List.length_take, MK.out]; exact Nat.min_le_right _ _
          have h5 : ds.length ≤ 2000000 := by have := NL.out; have := HR.out.len; omega
          omega
        have hne : ne ≤ n1 := by rw [NE.out.1, HJ.out.rd.len]; exact hSl
        have hnu : nu ≤ 6000000 := by rw [NE.out.2, HJ.out.t.len]; exact hSt
        clear hS hSl hSt
        by_cases hjt : j < m
        · obtain ⟨b, hb⟩ : ∃ b, tl[j]? = some b := ⟨_, List.getElem?_eq_getElem (by have := MK.out; omega)⟩
          obtain ⟨ad, rfl⟩ : ∃ ad, A4 = some ad := by
            cases A4 with
            | none => have h9 := ((OJ.out.src rfl).none rfl).1; rw [h9] at hb; simp at hb
            | some ad => exact ⟨ad, rfl⟩
          obtain ⟨g4, o4, rfl⟩ := (OJ.out.src rfl).addr (by have := MK.out; omega)
          obtain ⟨z0, z1, z2⟩ := (OJ.out.src rfl).bd j b hb
          have hbm := List.mem_of_getElem? hb
          rw [TLK.out] at hbm
          obtain ⟨hb1, hb2⟩ := List.mem_filter.1 hbm
          rw [Bool.and_eq_true] at hb2
          have hgd := (OR.out i).g.goodL b hb1
          have FST : Kp ((tl.take (j + 1)).foldl (bond1 live traps ⟨xp, dr⟩) (rnds live traps i st).1 = bond1 live traps ⟨xp, dr⟩ S b) := ⟨by rw [List.take_add_one, hb, List.foldl_append, ← SE.out]; rfl⟩
          obtain ⟨xa, xb, xr⟩ := b
          simp only at z0 z1 z2
          have hg1 : 1 ≤ xa := hgd.1.1
          have hg2 : xa ≤ 1099511627776 := hgd.1.2
          have hg3 : 1 ≤ xb := hgd.2.1.1
          have hg4 : xb ≤ 1099511627776 := hgd.2.1.2
          have hg5 : 1 ≤ xp := HIP.out.1
          have hg6 : xp ≤ 1099511627776 := HIP.out.2
          have hg7 : 0 ≤ xr := by have := hgd.2.2; simp only at this; omega
          have hg8 : xr ≤ 281474976710656 := by have := hgd.2.2; simp only at this; omega
          have j0 : (0 : Int) ≤ (j : Int) := by omega
          have j1 : (j : Int) < (m : Int) := by omega
          have hbx : Below wi.heap.size wi (wi.alloc (.cells #[.int .i64 xa, .int .i64 xb, .int .i64 xr] 71)) := (Below.refl _ _).alloc (Nat.le_refl _) _
          have YB := Kp.mk (blk_new wi (.cells #[.int .i64 xa, .int .i64 xb, .int .i64 xr] 71))
          obtain ⟨bb, hbb⟩ : ∃ bb, bb = wi.heap.size := ⟨_, rfl⟩
          have BBK := Kp.mk hbb
          obtain ⟨WX, hWX⟩ : ∃ WX, WX = wi.alloc (.cells #[.int .i64 xa, .int .i64 xb, .int .i64 xr] 71) := ⟨_, rfl⟩
          have WXK := Kp.mk hWX
          rw [← hbb, ← hWX] at YB
          rw [← hWX] at hbx
          have HJX := Kp.mk (HJ.out.below hbx)
          have OJX := Kp.mk (OJ.out.below hbx)
          have XJX := Kp.mk ((hbx.block _ (lt_of_block XJ.out)).trans XJ.out)
          have bdl := lt_of_block XJ.out
          have qb0 := blk_c YB.out 0
          have qb1 := blk_c YB.out 1
          have qb2 := blk_c YB.out 2
          have qi0 := blk_c XJ.out 0
          have qi1 := blk_c XJ.out 1
          have qd0 := blk_c XJX.out 0
          have qd1 := blk_c XJX.out 1
          have fin : ∀ (S' : SS) (De' Te' : Option Addr) (ne' ce' nu' cu' : Nat) (ys' zs' : List Dv) (w' : World), bond1 live traps ⟨xp, dr⟩ S ⟨xa, xb, xr⟩ = S' → ne' = ys'.length ∧ nu' = zs'.length → (Value.slice De' ne' ce').ownBlock ≠ some bd → w'.heap[bd]? = some (.cells #[.int .i64 xp, .slice xA rl xc] 48 (0, 0)) →
              Own w' 71 eBd (.slice (some ⟨g4, o4, none⟩) m c4) tl → DSI wb w w' q lv lv2 (.slice De' ne' ce') (.slice Te' nu' cu') ys' zs' S' (leftL xp (sn (rnds live traps i st).2)) →
              Kp (ne' = ys'.length ∧ nu' = zs'.length) ∧ Kp ((Value.slice De' ne' ce').ownBlock ≠ some bd) ∧ Kp (w'.heap[bd]? = some (.cells #[.int .i64 xp, .slice xA rl xc] 48 (0, 0))) ∧ Kp (Own w' 71 eBd (.slice (some ⟨g4, o4, none⟩) m c4) tl) ∧
              Kp (DSI wb w w' q lv lv2 (.slice De' ne' ce') (.slice Te' nu' cu') ys' zs' ((tl.take (j + 1)).foldl (bond1 live traps ⟨xp, dr⟩) (rnds live traps i st).1) (leftL xp (sn (rnds live traps i st).2))) := fun S' De' Te' ne' ce' nu' cu' ys' zs' w' h1 h2 h3 h4 h5 h6 =>
            ⟨⟨h2⟩, ⟨h3⟩, ⟨h4⟩, ⟨h5⟩, ⟨by rw [FST.out, h1]; exact h6⟩⟩
          have FIN := Kp.mk fin
          have HOTH : Kp (isOf xp ⟨xa, xb, xr⟩ = true ∧ tells xp ⟨xa, xb, xr⟩ = true) := ⟨hb2⟩
          clear hb hbm hb1 hb2 hgd hbx hbb hWX fin
          obtain ⟨tq, hto⟩ : ∃ tq, tq = otherP xp ⟨xa, xb, xr⟩ := ⟨_, rfl⟩
          have HTO := Kp.mk hto
          have hdead := ddead_any WX De ce ys tq (HJX.out.d.src rfl) (by have := NE.out.1; omega)
          rw [← NE.out.1] at hdead
          have hhas := fun w' (hb : Below wb.heap.size wb w') => dhas_any w' A c1 live tq (HL.out.below hb) (by have := HN1.out; omega)
          rw [← N.out.1] at hhas
          have hhas2 := fun w' (hb : Below wb.heap.size wb w') => dhas_any w' B c2 traps tq (HTR.out.below hb) (by have := HN2.out; omega)
          rw [← N.out.2.1] at hhas2
          have ALV := Kp.mk (alive_hasV (live := live) HJX.out.rd tq)
          have HDEAD := Kp.mk hdead
          have HHAS := Kp.mk hhas
          have HHAS2 := Kp.mk hhas2
          clear hdead hhas hhas2 hto
          by_cases hxr : xr = 0
          · have hr0 : (xr == 0) = true := by simpa using hxr
            have hr1 : decide (xr > 0) = false := by simp; omega
            have hsum : xa + xb - xp = tq := by rw [HTO.out]; exact other_sum (b := ⟨xa, xb, xr⟩) HOTH.out.1
            have HNP : Kp (¬ 0 < xr) := ⟨by omega⟩
            have HXR := Kp.mk hxr
            have hto1 : -2000000000000 ≤ tq := by omega
            have hto2 : tq ≤ 3000000000000 := by omega
            clear hxr
            cases hdv : hasV ys tq
            · rw [hdv] at HDEAD ALV
              clear hdv
              go_wp2_with fail
              rw [← BBK.out, ← WXK.out]
              refine HDEAD.out.mono ?_
              rintro e w5 ⟨rfl, b5⟩
              have B5 := Kp.mk b5
              have HJ5 := Kp.mk (HJX.out.below b5)
              have OJ5 := Kp.mk (OJX.out.below b5)
              have XJ5 := Kp.mk ((b5.block _ (lt_of_block XJX.out)).trans XJX.out)
              have YB5 := Kp.mk ((b5.block _ (lt_of_block YB.out)).trans YB.out)
              have W5 := Kp.mk HJ5.out.bel
              have pb0 := blk_c YB5.out 0
              have pb1 := blk_c YB5.out 1
              have pb2 := blk_c YB5.out 2
              have pd0 := blk_c XJ5.out 0
              have pd1 := blk_c XJ5.out 1
              clear b5
              by_cases hlv : tq ∈ live
              · have HAV : Kp (decide (tq ∈ live) = true) := ⟨decide_eq_true hlv⟩
                have ALT : Kp (aliveB live S.ds (otherP xp ⟨xa, xb, xr⟩) = true) := ⟨by rw [← HTO.out, ALV.out, HAV.out]; rfl⟩
                clear hlv
                go_wp2_with fail
                refine (HHAS.out _ W5.out).mono ?_
                rintro e w6 ⟨hret, hw6⟩
                rw [HAV.out] at hret
                subst hret
                obtain rfl := hw6.symm
                clear hw6
                by_cases htr : tq ∈ traps
                · have HTV : Kp (decide (tq ∈ traps) = true) := ⟨decide_eq_true htr⟩
                  have EB := Kp.mk (bond1_exit (live := live) (traps := traps) (d := ⟨xp, dr⟩) (s := S) (b := ⟨xa, xb, xr⟩) ALT.out (show ¬ 0 < xr by have := HNP.out; omega) (by rw [← HTO.out]; exact htr))
                  rw [← HTO.out] at EB
                  clear htr
                  go_wp2_with fail
                  refine (HHAS2.out _ W5.out).mono ?_
                  rintro e w6 ⟨hret, hw6⟩
                  rw [HTV.out] at hret
                  subst hret
                  obtain rfl := hw6.symm
                  clear hw6
                  have hEX := dexit_any w5 xp xA xc dr (SRC.out.below W5.out) (by have := rightE_len HRT.out; omega) HTX.out
                  have x0 : exitE xp dr = 0 := by unfold exitE; rw [if_pos HIP.out]; exact HRT.out
                  have x1 : exitL xp dr = exitM xp dr := by unfold exitL; rw [if_pos x0]
                  rw [x0, x1, ← RL.out] at hEX
                  have HEX := Kp.mk hEX
                  obtain ⟨M, hM⟩ : ∃ M, M = exitM xp dr := ⟨_, rfl⟩
                  have ML := Kp.mk (exitM_len1 xp dr)
                  rw [← hM] at HEX ML
                  have HM := Kp.mk hM
                  clear hEX x0 x1 hM
                  go_wp2_with fail
                  refine HEX.out.mono ?_
                  rintro e w7 ⟨v7, rfl, o7, f7, b7⟩
                  obtain ⟨A7, c7, hv7, _⟩ := o7.shape
                  subst hv7
                  have O7 := Kp.mk o7
                  have F7 := Kp.mk f7
                  have B7 := Kp.mk b7
                  have ot7 := (HJ5.out.below b7).t.own
                  have NU := Kp.mk NE.out.2
                  clear o7 f7 b7
                  go_wp2_with (at_builtin; refine app1_ev TTz (⟨tq, A7, M.length, c7⟩ : Dv) rfl _ _ rfl ot7 rfl rfl rfl (by simp) rfl (by have := NU.out; omega) (by have := NU.out; omega) ?_; intro A9 n9 c9 w9 y0 y1 y2 y3; have Y0 := Kp.mk y0.out; have Y1 := Kp.mk y1; have Y2 := Kp.mk y2; have Y3 := Kp.mk y3; clear y0 y1 y2 y3)
                  have hfin := HJ5.out.tell (p := tq) B7.out O7.out ML.out.1 F7.out Y1.out Y2.out Y3.out
                  have toff : ∀ T : TypeId, T ≠ 51 → Off w7 (fun g => (Value.slice Te nu cu).ownBlock = some g) T := fun T t1 g cur hF hg => (HJ5.out.below B7.out).t.own.ne hg (fun e => t1 e.symm) hF
                  have X9 := Kp.mk (Y2.out.at ((B7.out.block _ (lt_of_block XJ5.out)).trans XJ5.out) (fun hF => toff _ (by decide) _ _ hF ((B7.out.block _ (lt_of_block XJ5.out)).trans XJ5.out)))
                  have O9 := Kp.mk ((OJ5.out.below B7.out).frame Y2.out ((OJ5.out.below B7.out).off (toff _ (by decide))))
                  have HF9 := Kp.mk hfin
                  clear hfin toff
                  go_roundw
                  case rel =>
                    refine ⟨j + 1, De, A9, ne, ce, n9, c9, ys, zs ++ [⟨tq, A7, M.length, c7⟩], by omega, by go_num, rfl, rfl, FIN.out _ _ _ _ _ _ _ _ _ _ EB.out ⟨NE.out.1, by rw [List.length_append, Y0.out]; rfl⟩ DE.out X9.out O9.out ?_⟩
                    rw [← HM.out]
                    exact HF9.out
                  case measure => simp [intOf]; omega
                · have HTV : Kp (decide (tq ∈ traps) = false) := ⟨decide_eq_false htr⟩
                  cases hnm : isA dr normalS
                  · have EB := Kp.mk (bond1_dies (live := live) (traps := traps) (d := ⟨xp, dr⟩) (s := S) (b := ⟨xa, xb, xr⟩) ALT.out (show ¬ 0 < xr by have := HNP.out; omega) (by rw [← HTO.out]; exact htr) hnm)
                    rw [← HTO.out] at EB
                    have hIS := dis_any w5 xA xc dr normalS (SRC.out.below W5.out) (by have := rightE_len HRT.out; omega)
                    rw [hnm, ← RL.out] at hIS
                    unfold normalS at hIS
                    have HIS := Kp.mk hIS
                    clear hnm htr hIS
                    go_wp2_with fail
                    refine (HHAS2.out _ W5.out).mono ?_
                    rintro e w6 ⟨hret, hw6⟩
                    rw [HTV.out] at hret
                    subst hret
                    obtain rfl := hw6.symm
                    clear hw6
                    go_wp2_with fail
                    refine HIS.out.mono ?_
                    rintro e w7 ⟨rfl, b7⟩
                    have B7 := Kp.mk b7
                    have XJ7 := Kp.mk ((b7.block _ (lt_of_block XJ5.out)).trans XJ5.out)
                    have od7 := (HJ5.out.below b7).d
                    have NU := Kp.mk NE.out.1
                    have pe0 := blk_c XJ7.out 0
                    have pe1 := blk_c XJ7.out 1
                    clear b7
                    go_wp2_with (at_builtin; refine app1_ev TDv (⟨tq, xA, rl, xc⟩ : Dv) rfl _ _ rfl od7 rfl rfl rfl (by simp) rfl (by have := NU.out; omega) (by have := NU.out; omega) ?_; intro A9 n9 c9 w9 y0 y1 y2 y3; have Y0 := Kp.mk y0.out; have Y1 := Kp.mk y1; have Y2 := Kp.mk y2; have Y3 := Kp.mk y3; clear y0 y1 y2 y3)
                    have hfin := HJ5.out.die (x := ⟨tq, xA, rl, xc⟩) (r := dr) B7.out RL.out SRC.out Y1.out Y2.out Y3.out
                    have X9 := Kp.mk (Y2.out.at XJ7.out (fun hF => DE.out hF))
                    have O9 := Kp.mk ((OJ5.out.below B7.out).frame Y2.out (fun g hg hF => by
                      obtain ⟨cur, hc⟩ := (OJ5.out.below B7.out).blk' hg
                      exact (HJ5.out.below B7.out).d.ne hc (by decide) hF))
                    have DE9 : Kp ((Value.slice A9 n9 c9).ownBlock ≠ some bd) := ⟨fun h => by
                      rcases Y3.out with h9 | ⟨g9, h9, hg9⟩
                      · exact DE.out (h9.symm.trans h)
                      · rw [h9] at h; cases h
                        have := lt_of_block XJ7.out
                        omega⟩
                    have HF9 := Kp.mk hfin
                    clear hfin
                    go_roundw
                    case rel => exact ⟨j + 1, A9, Te, n9, c9, nu, cu, ys ++ [⟨tq, xA, rl, xc⟩], zs, by omega, by go_num, rfl, rfl, FIN.out _ _ _ _ _ _ _ _ _ _ EB.out ⟨by rw [List.length_append, Y0.out]; rfl, NE.out.2⟩ DE9.out X9.out O9.out HF9.out⟩
                    case measure => simp [intOf]; omega
                  · have EB := Kp.mk (bond1_normal (live := live) (traps := traps) (d := ⟨xp, dr⟩) (s := S) (b := ⟨xa, xb, xr⟩) ALT.out (show ¬ 0 < xr by have := HNP.out; omega) (by rw [← HTO.out]; exact htr) hnm)
                    have hIS := dis_any w5 xA xc dr normalS (SRC.out.below W5.out) (by have := rightE_len HRT.out; omega)
                    rw [hnm, ← RL.out] at hIS
                    unfold normalS at hIS
                    have HIS := Kp.mk hIS
                    clear hnm htr hIS
                    go_wp2_with fail
                    refine (HHAS2.out _ W5.out).mono ?_
                    rintro e w6 ⟨hret, hw6⟩
                    rw [HTV.out] at hret
                    subst hret
                    obtain rfl := hw6.symm
                    clear hw6
                    go_wp2_with fail
                    refine HIS.out.mono ?_
                    rintro e w7 ⟨rfl, b7⟩
                    have HJ7 := Kp.mk (HJ5.out.below b7)
                    have OJ7 := Kp.mk (OJ5.out.below b7)
                    have XJ7 := Kp.mk ((b7.block _ (lt_of_block XJ5.out)).trans XJ5.out)
                    clear b7
                    go_wp2
                    go_roundw
                    case rel => exact ⟨j + 1, De, Te, ne, ce, nu, cu, ys, zs, by omega, by go_num, rfl, rfl, FIN.out _ _ _ _ _ _ _ _ _ _ EB.out NE.out DE.out XJ7.out OJ7.out HJ7.out⟩
                    case measure => simp [intOf]; omega
              · have HAV : Kp (decide (tq ∈ live) = false) := ⟨decide_eq_false hlv⟩
                have EB := Kp.mk (bond1_out (live := live) (traps := traps) (d := ⟨xp, dr⟩) (s := S) (b := ⟨xa, xb, xr⟩) (by rw [← HTO.out, ALV.out, HAV.out]; rfl))
                clear hlv
                go_wp2_with fail
                refine (HHAS.out _ W5.out).mono ?_
                rintro e w6 ⟨hret, hw6⟩
                rw [HAV.out] at hret
                subst hret
                obtain rfl := hw6.symm
                clear hw6
                go_wp2
                go_roundw
                case rel => exact ⟨j + 1, De, Te, ne, ce, nu, cu, ys, zs, by omega, by go_num, rfl, rfl, FIN.out _ _ _ _ _ _ _ _ _ _ EB.out NE.out DE.out XJ5.out OJ5.out HJ5.out⟩
                case measure => simp [intOf]; omega
            · rw [hdv] at HDEAD ALV
              clear hdv
              have EB := Kp.mk (bond1_out (live := live) (traps := traps) (d := ⟨xp, dr⟩) (s := S) (b := ⟨xa, xb, xr⟩) (by rw [← HTO.out, ALV.out]; simp))
              go_wp2_with fail
              rw [← BBK.out, ← WXK.out]
              refine HDEAD.out.mono ?_
              rintro e w5 ⟨rfl, b5⟩
              have B5 := Kp.mk b5
              have HJ5 := Kp.mk (HJX.out.below b5)
              have OJ5 := Kp.mk (OJX.out.below b5)
              have XJ5 := Kp.mk ((b5.block _ (lt_of_block XJX.out)).trans XJX.out)
              have YB5 := Kp.mk ((b5.block _ (lt_of_block YB.out)).trans YB.out)
              have W5 := Kp.mk HJ5.out.bel
              have pb0 := blk_c YB5.out 0
              have pb1 := blk_c YB5.out 1
              have pb2 := blk_c YB5.out 2
              have pd0 := blk_c XJ5.out 0
              have pd1 := blk_c XJ5.out 1
              clear b5
              go_wp2
              go_roundw
              case rel => exact ⟨j + 1, De, Te, ne, ce, nu, cu, ys, zs, by omega, by go_num, rfl, rfl, FIN.out _ _ _ _ _ _ _ _ _ _ EB.out NE.out DE.out XJ5.out OJ5.out HJ5.out⟩
              case measure => simp [intOf]; omega
          · have hr0 : (xr == 0) = false := by simpa using hxr
            have hr1 : decide (xr > 0) = true := by simp; omega
            have hta : tq = xa := by rw [HTO.out]; exact (other_from (b := ⟨xa, xb, xr⟩) hxr HOTH.out.2).symm
            have hpos : 0 < xr := by omega
            have HPOS := Kp.mk hpos
            subst hta
            clear hxr hpos
            cases hdv : hasV ys tq
            · rw [hdv] at HDEAD ALV
              clear hdv
              go_wp2_with fail
              rw [← BBK.out, ← WXK.out]
              refine HDEAD.out.mono ?_
              rintro e w5 ⟨rfl, b5⟩
              have B5 := Kp.mk b5
              have HJ5 := Kp.mk (HJX.out.below b5)
              have OJ5 := Kp.mk (OJX.out.below b5)
              have XJ5 := Kp.mk ((b5.block _ (lt_of_block XJX.out)).trans XJX.out)
              have YB5 := Kp.mk ((b5.block _ (lt_of_block YB.out)).trans YB.out)
              have W5 := Kp.mk HJ5.out.bel
              have pb0 := blk_c YB5.out 0
              have pb1 := blk_c YB5.out 1
              have pb2 := blk_c YB5.out 2
              have pd0 := blk_c XJ5.out 0
              have pd1 := blk_c XJ5.out 1
              clear b5
              by_cases hlv : tq ∈ live
              · have HAV : Kp (decide (tq ∈ live) = true) := ⟨decide_eq_true hlv⟩
                have ALT : Kp (aliveB live S.ds (otherP xp ⟨tq, xb, xr⟩) = true) := ⟨by rw [← HTO.out, ALV.out, HAV.out]; rfl⟩
                clear hlv
                go_wp2_with fail
                refine (HHAS.out _ W5.out).mono ?_
                rintro e w6 ⟨hret, hw6⟩
                rw [HAV.out] at hret
                subst hret
                obtain rfl := hw6.symm
                clear hw6
                have EB := Kp.mk (bond1_down (live := live) (traps := traps) (d := ⟨xp, dr⟩) (s := S) (b := ⟨tq, xb, xr⟩) ALT.out HPOS.out)
                rw [← HTO.out] at EB
                have hEX := ddown_any w5 xr xp xA xc dr (SRC.out.below W5.out) (by have := rightE_len HRT.out; omega) HTX.out
                have x0 : downE xr xp dr = 0 := by unfold downE; rw [if_pos ⟨⟨by have := HPOS.out; omega, hg8⟩, HIP.out⟩]; exact HRT.out
                have x1 : downL xr xp dr = downM xr xp dr := by unfold downL; rw [if_pos x0]
                rw [x0, x1, ← RL.out] at hEX
                have HEX := Kp.mk hEX
                obtain ⟨M, hM⟩ : ∃ M, M = downM xr xp dr := ⟨_, rfl⟩
                have ML := Kp.mk (downM_len1 xr xp dr)
                rw [← hM] at HEX ML
                have HM := Kp.mk hM
                clear hEX x0 x1 hM
                go_wp2_with fail
                refine HEX.out.mono ?_
                rintro e w7 ⟨v7, rfl, o7, f7, b7⟩
                obtain ⟨A7, c7, hv7, _⟩ := o7.shape
                subst hv7
                have O7 := Kp.mk o7
                have F7 := Kp.mk f7
                have B7 := Kp.mk b7
                have ot7 := (HJ5.out.below b7).t.own
                have NU := Kp.mk NE.out.2
                clear o7 f7 b7
                go_wp2_with (at_builtin; refine app1_ev TTz (⟨tq, A7, M.length, c7⟩ : Dv) rfl _ _ rfl ot7 rfl rfl rfl (by simp) rfl (by have := NU.out; omega) (by have := NU.out; omega) ?_; intro A9 n9 c9 w9 y0 y1 y2 y3; have Y0 := Kp.mk y0.out; have Y1 := Kp.mk y1; have Y2 := Kp.mk y2; have Y3 := Kp.mk y3; clear y0 y1 y2 y3)
                have hfin := HJ5.out.tell (p := tq) B7.out O7.out ML.out.1 F7.out Y1.out Y2.out Y3.out
                have toff : ∀ T : TypeId, T ≠ 51 → Off w7 (fun g => (Value.slice Te nu cu).ownBlock = some g) T := fun T t1 g cur hF hg => (HJ5.out.below B7.out).t.own.ne hg (fun e => t1 e.symm) hF
                have X9 := Kp.mk (Y2.out.at ((B7.out.block _ (lt_of_block XJ5.out)).trans XJ5.out) (fun hF => toff _ (by decide) _ _ hF ((B7.out.block _ (lt_of_block XJ5.out)).trans XJ5.out)))
                have O9 := Kp.mk ((OJ5.out.below B7.out).frame Y2.out ((OJ5.out.below B7.out).off (toff _ (by decide))))
                have HF9 := Kp.mk hfin
                clear hfin toff
                go_roundw
                case rel =>
                  refine ⟨j + 1, De, A9, ne, ce, n9, c9, ys, zs ++ [⟨tq, A7, M.length, c7⟩], by omega, by go_num, rfl, rfl, FIN.out _ _ _ _ _ _ _ _ _ _ EB.out ⟨NE.out.1, by rw [List.length_append, Y0.out]; rfl⟩ DE.out X9.out O9.out ?_⟩
                  rw [← HM.out]
                  exact HF9.out
                case measure => simp [intOf]; omega
              · have HAV : Kp (decide (tq ∈ live) = false) := ⟨decide_eq_false hlv⟩
                have EB := Kp.mk (bond1_out (live := live) (traps := traps) (d := ⟨xp, dr⟩) (s := S) (b := ⟨tq, xb, xr⟩) (by rw [← HTO.out, ALV.out, HAV.out]; rfl))
                clear hlv
                go_wp2_with fail
                refine (HHAS.out _ W5.out).mono ?_
                rintro e w6 ⟨hret, hw6⟩
                rw [HAV.out] at hret
                subst hret
                obtain rfl := hw6.symm
                clear hw6
                go_wp2
                go_roundw
                case rel => exact ⟨j + 1, De, Te, ne, ce, nu, cu, ys, zs, by omega, by go_num, rfl, rfl, FIN.out _ _ _ _ _ _ _ _ _ _ EB.out NE.out DE.out XJ5.out OJ5.out HJ5.out⟩
                case measure => simp [intOf]; omega
            · rw [hdv] at HDEAD ALV
              clear hdv
              have EB := Kp.mk (bond1_out (live := live) (traps := traps) (d := ⟨xp, dr⟩) (s := S) (b := ⟨tq, xb, xr⟩) (by rw [← HTO.out, ALV.out]; simp))
              go_wp2_with fail
              rw [← BBK.out, ← WXK.out]
              refine HDEAD.out.mono ?_
              rintro e w5 ⟨rfl, b5⟩
              have B5 := Kp.mk b5
              have HJ5 := Kp.mk (HJX.out.below b5)
              have OJ5 := Kp.mk (OJX.out.below b5)
              have XJ5 := Kp.mk ((b5.block _ (lt_of_block XJX.out)).trans XJX.out)
              have YB5 := Kp.mk ((b5.block _ (lt_of_block YB.out)).trans YB.out)
              have W5 := Kp.mk HJ5.out.bel
              have pb0 := blk_c YB5.out 0
              have pb1 := blk_c YB5.out 1
              have pb2 := blk_c YB5.out 2
              have pd0 := blk_c XJ5.out 0
              have pd1 := blk_c XJ5.out 1
              clear b5
              go_wp2
              go_roundw
              case rel => exact ⟨j + 1, De, Te, ne, ce, nu, cu, ys, zs, by omega, by go_num, rfl, rfl, FIN.out _ _ _ _ _ _ _ _ _ _ EB.out NE.out DE.out XJ5.out OJ5.out HJ5.out⟩
              case measure => simp [intOf]; omega
        · obtain rfl : j = m := by omega
          have e1 : rnds live traps (i + 1) st = (tl.foldl (bond1 live traps ⟨xp, dr⟩) (rnds live traps i st).1, leftN xp (rnds live traps i st).2) := by rw [TLK.out]; exact rnd_some HDK.out
          have h8 := HJ.out
          rw [SE.out, List.take_of_length_le (by have := MK.out; omega)] at h8
          have i2 : (i : Int) + 1 ≤ 2000001 := by omega
          have hpre := (fold_grow live traps ⟨xp, dr⟩ tl (rnds live traps i st).1).1.length_le
          have H8 : Kp (DSI wb w wi q lv lv2 (.slice De ne ce) (.slice Te nu cu) ys zs (rnds live traps (i + 1) st).1 (sn (rnds live traps (i + 1) st).2)) := ⟨by
            rw [e1]
            show DSI wb w wi q lv lv2 (.slice De ne ce) (.slice Te nu cu) ys zs (tl.foldl (bond1 live traps ⟨xp, dr⟩) (rnds live traps i st).1) (sn (leftN xp (rnds live traps i st).2))
            rw [← leftL_eq]
            exact h8⟩
          have HLE : Kp (i + 1 ≤ (rnds live traps (i + 1) st).1.ds.length) := ⟨by
            rw [e1]
            show i + 1 ≤ (tl.foldl (bond1 live traps ⟨xp, dr⟩) (rnds live traps i st).1).ds.length
            have := HND.out
            omega⟩
          clear h8 e1 hpre
          go_wp2
          go_roundw
          case rel => exact ⟨i + 1, De, Te, ne, ce, nu, cu, lv2, ys, zs, HLE.out, by go_num, rfl, rfl, NE, H8⟩
          case measure => simp [intOf]; omega
    · have e9 : rnds live traps i st = sprd live traps ds ns := by
        have h0 := OR.out 0
        rw [ST.out] at h0 ⊢
        exact sprd_at h0 (by rw [← ST.out, ← HND.out]; omega)
      have HE := Kp.mk e9
      clear e9
      go_wp2
      go_ret3
      exact ⟨_, _, vs, us, lv1, rfl, by rw [← HE.out]; exact HS.out⟩
end Go.Proofs.YtameidoaenoppaaGreatDoor

namespace Go.Proofs.YtameidoaenoppaaGreatDoor
open Go.RowKit

/-- What holds behind the making of a case's graphs. -/
structure Beg (w w2 : World) (A0 : Option Addr) (c0 : Nat) (ops : List OpM) (A1 : Option Addr) (c1 : Nat) (live : List Int) (A2 : Option Addr) (c2 : Nat) (traps : List Int) (A3 : Option Addr) (c3 : Nat) (vs : List Dv) (ds : List Dth)
    (p bm lm rm q : Nat) (lv : Value) (ns : List NB) (last : Int) : Prop where
  cm : CaseM w2 A0 c0 ops A1 c1 live A2 c2 traps A3 c3 vs ds
  g : IsG w2 p bm lm rm ns last
  d : IsD w2 q lv (sn ns)
  fg : ∀ k, FG p bm lm rm k → w.heap.size < k
  fd : ∀ k, FD q lv k → w.heap.size < k
  bel : Below w.heap.size w w2
  box : w2.heap[w.heap.size]? = some (.cells #[.slice A0 ops.length c0, .slice A1 live.length c1, .slice A2 traps.length c2, .slice A3 vs.length c3] 26 (0, 0))
  last : last ≤ 900000000000000000
theorem made_beg {w : World} {A0 : Option Addr} {c0 : Nat} {ops : List OpM} {A1 : Option Addr} {c1 : Nat} {live : List Int} {A2 : Option Addr} {c2 : Nat} {traps : List Int} {A3 : Option Addr} {c3 : Nat} {vs : List Dv} {ds : List Dth} (h : CaseM w A0 c0 ops A1 c1 live A2 c2 traps A3 c3 vs ds) :
    Calls Tryz.prog 4 #[.slice A0 ops.length c0] (w.alloc (.cells #[.slice A0 ops.length c0, .slice A1 live.length c1, .slice A2 traps.length c2, .slice A3 vs.length c3] 26)) fun e w2 =>
      ∃ p bm lm rm q lv ns last, e = .returned (.tuple #[.pointer (some ⟨p, 0, none⟩), .pointer (some ⟨q, 0, none⟩)]) ∧ Beg w w2 A0 c0 ops A1 c1 live A2 c2 traps A3 c3 vs ds p bm lm rm q lv ns last := by
  have hb : Below w.heap.size w (w.alloc (.cells #[.slice A0 ops.length c0, .slice A1 live.length c1, .slice A2 traps.length c2, .slice A3 vs.length c3] 26)) := (Below.refl _ _).alloc (Nat.le_refl _) _
  have h1 := h.below hb
  refine (made_any _ ops A0 c0 h1.s0 (by have := h.n0; omega)).mono ?_
  rintro e w2 ⟨p, bm, lm, rm, q, lv, ns, last, rfl, hT, hl⟩
  have hbe := hT.bel
  refine ⟨p, bm, lm, rm, q, lv, ns, last, rfl, h1.below hbe, hT.g, hT.d, fun k hk => ?_, fun k hk => ?_, bstep hb hb.size hbe, (Chg.of_below hbe NoF).at (blk_new w _) (fun h => h), ?_⟩
  · have := hT.fg k hk; simp at this; omega
  · have := hT.fd k hk; simp at this; omega
  · have := h.n0; omega
section
variable {w w2 w3 : World} {A0 : Option Addr} {c0 : Nat} {ops : List OpM} {A1 : Option Addr} {c1 : Nat} {live : List Int} {A2 : Option Addr} {c2 : Nat} {traps : List Int} {A3 : Option Addr} {c3 : Nat} {vs : List Dv} {ds : List Dth} {p bm lm rm q : Nat} {lv : Value} {ns : List NB} {last : Int}
theorem Beg.below (h : Beg w w2 A0 c0 ops A1 c1 live A2 c2 traps A3 c3 vs ds p bm lm rm q lv ns last) (hb : Below w2.heap.size w2 w3) : Beg w w3 A0 c0 ops A1 c1 live A2 c2 traps A3 c3 vs ds p bm lm rm q lv ns last :=
  ⟨h.cm.below hb, h.g.below hb, h.d.below hb, h.fg, h.fd, bstep h.bel h.bel.size hb, (Chg.of_below hb NoF).at h.box (fun h => h), h.last⟩
/-- What turns no block of the case's, of its graphs or below. -/
theorem Beg.frame {F : Nat → Prop} (h : Beg w w2 A0 c0 ops A1 c1 live A2 c2 traps A3 c3 vs ds p bm lm rm q lv ns last) (h0 : CaseM w A0 c0 ops A1 c1 live A2 c2 traps A3 c3 vs ds) (hc : Chg F w2 w3) (hF : ∀ g, F g → w.heap.size < g) (hg : ∀ g, FG p bm lm rm g → ¬ F g) (hd : ∀ g, FD q lv g → ¬ F g) :
    Beg w w3 A0 c0 ops A1 c1 live A2 c2 traps A3 c3 vs ds p bm lm rm q lv ns last := by
  have hb : Below w.heap.size w w3 := chg_below h.bel hc (fun g hg => Nat.le_of_lt (hF g hg)) h.bel.size
  exact ⟨h0.below hb, ⟨h.g.g.frame hc hg, h.g.ok⟩, h.d.frame hc hd, h.fg, h.fd, hb, hc.at h.box (fun hf => by have := hF _ hf; omega), h.last⟩
/-- What an end of bonds leaves. -/
theorem Beg.spread (h : Beg w w2 A0 c0 ops A1 c1 live A2 c2 traps A3 c3 vs ds p bm lm rm q lv ns last) (h0 : CaseM w A0 c0 ops A1 c1 live A2 c2 traps A3 c3 vs ds) (hc : Chg (FG p bm lm rm) w2 w3) :
    Below w.heap.size w w3 ∧ CaseM w3 A0 c0 ops A1 c1 live A2 c2 traps A3 c3 vs ds ∧ IsD w3 q lv (sn ns) ∧ w3.heap[w.heap.size]? = some (.cells #[.slice A0 ops.length c0, .slice A1 live.length c1, .slice A2 traps.length c2, .slice A3 vs.length c3] 26 (0, 0)) := by
  have hb : Below w.heap.size w w3 := chg_below h.bel hc (fun g hg => Nat.le_of_lt (h.fg g hg)) h.bel.size
  exact ⟨hb, h0.below hb, h.d.frame hc (fun g h1 h2 => apart h.g h.d g h2 h1), hc.at h.box (fun hf => by have := h.fg _ hf; omega)⟩
end
end Go.Proofs.YtameidoaenoppaaGreatDoor

namespace Go.Proofs.YtameidoaenoppaaGreatDoor
open Go.RowKit

set_option maxRecDepth 100000 in
set_option maxHeartbeats 8000000 in
theorem tells_any (w : World) (A B : Option Addr) (c d : Nat) (vs us : List Dv) (ds : List Dth) (ha : Src w eDv A c vs) (hb : Src w eDv B d us) (ra : RdD w vs ds) (rb : RdD w us ds) (hn : ds.length ≤ 9000000000000) (h4 : ∀ d ∈ ds, d.r.length ≤ 9000000000000) :
    Calls Tryz.prog 10 #[.slice A vs.length c, .slice B us.length d] w fun e w' => e = .returned (.bool true) ∧ Below w.heap.size w w' := by
  have HA := Kp.mk ha
  have HB := Kp.mk hb
  have RA := Kp.mk ra
  have RB := Kp.mk rb
  have H4 := Kp.mk h4
  rw [ra.len, rb.len]
  clear ha hb ra rb h4
  obtain ⟨n, hnn⟩ : ∃ n, n = ds.length := ⟨_, rfl⟩
  have HN := Kp.mk hnn
  rw [← hnn] at hn ⊢
  clear hnn
  go_enter Tryz.func10, Tryz.ntmps10
  go_wp2
  go_loopw [5, 13] (fun _ i wr => ∃ k : Nat, k ≤ n ∧ i = .int .i64 k ∧ Kp (Below w.heap.size w wr)) (fun _ i _ => n - (intOf i).toNat)
  case atStart => exact ⟨0, Nat.zero_le _, rfl, ⟨Below.refl _ _⟩⟩
  case round =>
    obtain ⟨k, hk, rfl, HBW⟩ := hrel
    by_cases hlt : k < n
    · obtain ⟨x, hx⟩ : ∃ x, vs[k]? = some x := ⟨_, List.getElem?_eq_getElem (by have := HN.out; have := RA.out.len; omega)⟩
      obtain ⟨y, hy⟩ : ∃ y, us[k]? = some y := ⟨_, List.getElem?_eq_getElem (by have := HN.out; have := RB.out.len; omega)⟩
      obtain ⟨dd, hd⟩ : ∃ d, ds[k]? = some d := ⟨_, List.getElem?_eq_getElem (by have := HN.out; omega)⟩
      obtain ⟨ad, rfl⟩ : ∃ ad, A = some ad := by
        cases A with
        | none => have h9 := (HA.out.none rfl).1; rw [h9] at hx; simp at hx
        | some ad => exact ⟨ad, rfl⟩
      obtain ⟨g, o, rfl⟩ := HA.out.addr (by have := (List.getElem?_eq_some_iff.1 hx).1; omega)
      obtain ⟨bd, rfl⟩ : ∃ bd, B = some bd := by
        cases B with
        | none => have h9 := (HB.out.none rfl).1; rw [h9] at hy; simp at hy
        | some ad => exact ⟨ad, rfl⟩
      obtain ⟨g', o', rfl⟩ := HB.out.addr (by have := (List.getElem?_eq_some_iff.1 hy).1; omega)
      have HW0 := Kp.mk HBW.out.drew
      obtain ⟨a0, a1⟩ := (HA.out.below HW0.out).dv k x hx
      obtain ⟨b0, b1⟩ := (HB.out.below HW0.out).dv k y hy
      obtain ⟨p1, p2, p3⟩ := RA.out.at_ k x dd hx hd
      obtain ⟨q1, q2, q3⟩ := RB.out.at_ k y dd hy hd
      obtain ⟨xp, xA, xn, xc⟩ := x
      obtain ⟨yp, yA, yn, yc⟩ := y
      obtain ⟨dp, dr⟩ := dd
      simp only at a0 a1 b0 b1 p1 p2 p3 q1 q2 q3
      subst q1; subst p1; subst p2; subst q2
      have hsm := same_any wr.drew xA yA xc yc dr dr (p3.below HW0.out) (q3.below HW0.out) (H4.out _ (List.mem_of_getElem? hd))
      rw [decide_eq_true rfl] at hsm
      have HSM := Kp.mk hsm
      have AT := Kp.mk (And.intro a0 (And.intro a1 (And.intro b0 b1)))
      have KP : Kp (∀ w', Below w.heap.size w w' → w'.cell? ⟨g, o + k * 2, none⟩ = some (.int .i64 xp) ∧ w'.cell? ⟨g, o + k * 2 + 1, none⟩ = some (.slice xA dr.length xc) ∧ w'.cell? ⟨g', o' + k * 2, none⟩ = some (.int .i64 xp) ∧ w'.cell? ⟨g', o' + k * 2 + 1, none⟩ = some (.slice yA dr.length yc)) := ⟨fun w' hw => by
        obtain ⟨a0, a1⟩ := (HA.out.below hw).dv k _ hx
        obtain ⟨b0, b1⟩ := (HB.out.below hw).dv k _ hy
        exact ⟨a0, a1, b0, b1⟩⟩
      have k0 : (0 : Int) ≤ (k : Int) := by omega
      have k1 : (k : Int) < (n : Int) := by omega
      clear hx hy hd p3 q3 a0 a1 b0 b1 hsm
      go_wp2
      refine R_begin 999 (fun w9 => w9.cell? ⟨g, o + k * 2, none⟩ = some (.int .i64 xp) ∧ w9.cell? ⟨g, o + k * 2 + 1, none⟩ = some (.slice xA dr.length xc) ∧ w9.cell? ⟨g', o' + k * 2, none⟩ = some (.int .i64 xp) ∧ w9.cell? ⟨g', o' + k * 2 + 1, none⟩ = some (.slice yA dr.length yc)) (by kernel_rfl) AT.out (fun HP0 => ?_)
      refine R_pure 0 rfl (by kernel_rfl) HP0 ?_
      apply Exists.intro
      refine ⟨fun _ _ _ h => h, .inl ⟨by kernel_rfl, fun w9 h9 => ?_⟩, fun HP1 => ?_⟩
      · clear h9; go_simp; first | done | rfl
      clear HP0
      refine R_pure 1 rfl (by kernel_rfl) HP1 ?_
      apply Exists.intro
      refine ⟨fun _ _ _ h => h, .inl ⟨by kernel_rfl, fun w9 h9 => ?_⟩, fun HP2 => ?_⟩
      · clear h9; go_simp; first | done | rfl
      clear HP1
      refine R_pure 2 rfl (by kernel_rfl) HP2 ?_
      apply Exists.intro
      refine ⟨fun _ _ _ h => h, .inl ⟨by kernel_rfl, fun w9 h9 => ?_⟩, fun HP3 => ?_⟩
      · clear h9; go_simp; first | done | rfl
      clear HP2
      refine R_pure 3 rfl (by kernel_rfl) HP3 ?_
      apply Exists.intro
      refine ⟨fun _ _ _ h => h, .inl ⟨by kernel_rfl, fun w9 h9 => ?_⟩, fun HP4 => ?_⟩
      · clear h9; go_simp; first | done | rfl
      clear HP3
      refine R_take 4 rfl (by kernel_rfl) HP4 ?_
      apply Exists.intro
      refine ⟨fun _ _ _ h => h, .inl ⟨by kernel_rfl, fun w9 h9 => ?_⟩, fun HP5 => ?_⟩
      · obtain ⟨s1, s2, s3, s4⟩ := h9; go_simp; first | done | rfl
      clear HP4
      refine R_pure 5 rfl (by kernel_rfl) HP5 ?_
      apply Exists.intro
      refine ⟨fun _ _ _ h => h, .inl ⟨by kernel_rfl, fun w9 h9 => ?_⟩, fun HP6 => ?_⟩
      · clear h9; go_simp; first | done | rfl
      clear HP5
      refine R_pure 6 rfl (by kernel_rfl) HP6 ?_
      apply Exists.intro
      refine ⟨fun _ _ _ h => h, .inl ⟨by kernel_rfl, fun w9 h9 => ?_⟩, fun HP7 => ?_⟩
      · clear h9; go_simp; first | done | rfl
      clear HP6
      refine R_pure 7 rfl (by kernel_rfl) HP7 ?_
      apply Exists.intro
      refine ⟨fun _ _ _ h => h, .inl ⟨by kernel_rfl, fun w9 h9 => ?_⟩, fun HP8 => ?_⟩
      · clear h9; go_simp; first | done | rfl
      clear HP7
      refine R_pure 8 rfl (by kernel_rfl) HP8 ?_
      apply Exists.intro
      refine ⟨fun _ _ _ h => h, .inl ⟨by kernel_rfl, fun w9 h9 => ?_⟩, fun HP9 => ?_⟩
      · clear h9; go_simp; first | done | rfl
      clear HP8
      refine R_take 9 rfl (by kernel_rfl) HP9 ?_
      apply Exists.intro
      refine ⟨fun _ _ _ h => h, .inl ⟨by kernel_rfl, fun w9 h9 => ?_⟩, fun HP10 => ?_⟩
      · obtain ⟨s1, s2, s3, s4⟩ := h9; go_simp; first | done | rfl
      clear HP9
      refine R_pure 10 rfl (by kernel_rfl) HP10 ?_
      apply Exists.intro
      refine ⟨fun _ _ _ h => h, .inl ⟨by kernel_rfl, fun w9 h9 => ?_⟩, fun HP11 => ?_⟩
      · clear h9; go_simp; first | done | rfl
      clear HP10
      refine R_pure 11 rfl (by kernel_rfl) HP11 ?_
      apply Exists.intro
      refine ⟨fun _ _ _ h => h, .inl ⟨by kernel_rfl, fun w9 h9 => ?_⟩, fun HP12 => ?_⟩
      · clear h9; go_simp; first | done | rfl
      clear HP11
      refine R_pure 12 rfl (by kernel_rfl) HP12 ?_
      apply Exists.intro
      refine ⟨fun _ _ _ h => h, .inl ⟨by kernel_rfl, fun w9 h9 => ?_⟩, fun HP13 => ?_⟩
      · clear h9; go_simp; first | done | rfl
      clear HP12
      refine R_pure 13 rfl (by kernel_rfl) HP13 ?_
      apply Exists.intro
      refine ⟨fun _ _ _ h => h, .inl ⟨by kernel_rfl, fun w9 h9 => ?_⟩, fun HP14 => ?_⟩
      · clear h9; go_simp; first | done | rfl
      clear HP13
      refine R_pure 14 rfl (by kernel_rfl) HP14 ?_
      apply Exists.intro
      refine ⟨fun _ _ _ h => h, .inl ⟨by kernel_rfl, fun w9 h9 => ?_⟩, fun HP15 => ?_⟩
      · clear h9; go_simp; first | done | rfl
      clear HP14
      refine R_pure 15 rfl (by kernel_rfl) HP15 ?_
      apply Exists.intro
      refine ⟨fun _ _ _ h => h, .inl ⟨by kernel_rfl, fun w9 h9 => ?_⟩, fun HP16 => ?_⟩
      · clear h9; go_simp; first | done | rfl
      clear HP15
      refine R_take 16 rfl (by kernel_rfl) HP16 ?_
      apply Exists.intro
      refine ⟨fun _ _ _ h => h, .inl ⟨by kernel_rfl, fun w9 h9 => ?_⟩, fun HP17 => ?_⟩
      · obtain ⟨s1, s2, s3, s4⟩ := h9; go_simp; first | done | rfl
      clear HP16
      refine R_pure 17 rfl (by kernel_rfl) HP17 ?_
      apply Exists.intro
      refine ⟨fun _ _ _ h => h, .inl ⟨by kernel_rfl, fun w9 h9 => ?_⟩, fun HP18 => ?_⟩
      · clear h9; go_simp; first | done | rfl
      clear HP17
      refine R_pure 18 rfl (by kernel_rfl) HP18 ?_
      apply Exists.intro
      refine ⟨fun _ _ _ h => h, .inl ⟨by kernel_rfl, fun w9 h9 => ?_⟩, fun HP19 => ?_⟩
      · clear h9; go_simp; first | done | rfl
      clear HP18
      refine R_pure 19 rfl (by kernel_rfl) HP19 ?_
      apply Exists.intro
      refine ⟨fun _ _ _ h => h, .inl ⟨by kernel_rfl, fun w9 h9 => ?_⟩, fun HP20 => ?_⟩
      · clear h9; go_simp; first | done | rfl
      clear HP19
      refine R_pure 20 rfl (by kernel_rfl) HP20 ?_
      apply Exists.intro
      refine ⟨fun _ _ _ h => h, .inl ⟨by kernel_rfl, fun w9 h9 => ?_⟩, fun HP21 => ?_⟩
      · clear h9; go_simp; first | done | rfl
      clear HP20
      refine R_take 21 rfl (by kernel_rfl) HP21 ?_
      apply Exists.intro
      refine ⟨fun _ _ _ h => h, .inl ⟨by kernel_rfl, fun w9 h9 => ?_⟩, fun HP22 => ?_⟩
      · obtain ⟨s1, s2, s3, s4⟩ := h9; go_simp; first | done | rfl
      clear HP21
      refine R_all [22] (by kernel_rfl) ?_
      refine AllR.cons (i := 22) rfl (fun K9 HK9 => ?_) ?_
      · go_simp
        refine HSM.out.mono ?_
        rintro e w5 ⟨rfl, b5⟩
        have B5 := Kp.mk (bstep HW0.out HW0.out.size b5)
        clear b5
        refine HK9.out _ _ (.inr (KP.out _ B5.out)) (fun HP23 => ?_)
        clear HK9 K9
        refine R_pure 23 rfl (by kernel_rfl) HP23 ?_
        apply Exists.intro
        refine ⟨fun _ _ _ h => h, .inl ⟨by kernel_rfl, fun w9 h9 => ?_⟩, fun HP24 => ?_⟩
        · clear h9; go_simp; first | done | rfl
        clear HP23
        refine R_pure 24 rfl (by kernel_rfl) HP24 ?_
        apply Exists.intro
        refine ⟨fun _ _ _ h => h, .inl ⟨by kernel_rfl, fun w9 h9 => ?_⟩, fun HP25 => ?_⟩
        · clear h9; go_simp; first | done | rfl
        clear HP24
        refine R_done (by kernel_rfl) ?_
        go_wp2
        go_roundw
        case rel => exact ⟨k + 1, by omega, by go_num, B5⟩
        case measure => simp [intOf]; omega
      exact AllR.nil
    · go_wp2
      go_ret
      exact ⟨rfl, HBW.out⟩
set_option maxRecDepth 100000 in
set_option maxHeartbeats 8000000 in
theorem keptD_any (w0 w : World) (v : Value) (A B : Option Addr) (c d n : Nat) (vs us : List Dv) (ds : List Dth) (hv : v = .slice A n c) (hc : CopM w0 w v vs ds) (hb : Src w eDv B d us) (rb : RdD w us ds) (hn : ds.length ≤ 4398046511000) (h4 : ∀ d ∈ ds, d.r.length ≤ 4398046511000) :
    Calls Tryz.prog 14 #[.slice A n c, .slice B us.length d] w fun e w' => e = .returned (.bool true) ∧ Below w.heap.size w w' := by
  subst hv
  have HC := Kp.mk hc
  have HB := Kp.mk hb
  have RB := Kp.mk rb
  have H4 := Kp.mk h4
  have hnn : n = ds.length := by
    obtain ⟨A', c', hv, _⟩ := hc.own.shape
    cases hv
    exact hc.len
  have LV := Kp.mk hc.len
  rw [rb.len, ← hnn]
  have HN := Kp.mk hnn
  rw [← hnn] at hn
  clear hc hb rb h4 hnn
  go_enter Tryz.func14, Tryz.ntmps14
  go_wp2
  go_loopw [5, 8] (fun _ i wr => ∃ k : Nat, k ≤ n ∧ i = .int .i64 k ∧ Kp (Below w.heap.size w wr)) (fun _ i _ => n - (intOf i).toNat)
  case atStart => exact ⟨0, Nat.zero_le _, rfl, ⟨Below.refl _ _⟩⟩
  case round =>
    obtain ⟨k, hk, rfl, HBW⟩ := hrel
    by_cases hlt : k < n
    · obtain ⟨x, hx⟩ : ∃ x, vs[k]? = some x := ⟨_, List.getElem?_eq_getElem (by have := HN.out; have := LV.out; omega)⟩
      obtain ⟨y, hy⟩ : ∃ y, us[k]? = some y := ⟨_, List.getElem?_eq_getElem (by have := HN.out; have := RB.out.len; omega)⟩
      obtain ⟨dd, hd⟩ : ∃ d, ds[k]? = some d := ⟨_, List.getElem?_eq_getElem (by have := HN.out; omega)⟩
      obtain ⟨ad, rfl⟩ : ∃ ad, A = some ad := by
        cases A with
        | none => have h9 := ((HC.out.own.src rfl).none rfl).1; rw [h9] at hx; simp at hx
        | some ad => exact ⟨ad, rfl⟩
      obtain ⟨g, o, rfl⟩ := (HC.out.own.src rfl).addr (by have := (List.getElem?_eq_some_iff.1 hx).1; omega)
      obtain ⟨bd, rfl⟩ : ∃ bd, B = some bd := by
        cases B with
        | none => have h9 := (HB.out.none rfl).1; rw [h9] at hy; simp at hy
        | some ad => exact ⟨ad, rfl⟩
      obtain ⟨g', o', rfl⟩ := HB.out.addr (by have := (List.getElem?_eq_some_iff.1 hy).1; omega)
      have HW0 := Kp.mk HBW.out.drew
      have HC0 := Kp.mk (HC.out.below HW0.out)
      obtain ⟨a0, a1⟩ := (HC0.out.own.src rfl).dv k x hx
      obtain ⟨b0, b1⟩ := (HB.out.below HW0.out).dv k y hy
      obtain ⟨p1, gl, p2, p3, p4⟩ := HC0.out.tx k x dd hx hd
      obtain ⟨q1, q2, q3⟩ := RB.out.at_ k y dd hy hd
      obtain ⟨xp, xA, xn, xc⟩ := x
      obtain ⟨yp, yA, yn, yc⟩ := y
      obtain ⟨dp, dr⟩ := dd
      simp only at a0 a1 b0 b1 p1 p2 p3 q1 q2 q3
      subst q1; subst p1; subst p2; subst q2
      have HSM := Kp.mk (kept_any wr.drew yA gl xn xc yc dr p3 (q3.below HW0.out) (H4.out _ (List.mem_of_getElem? hd)))
      have AT := Kp.mk (And.intro a0 (And.intro a1 (And.intro b0 b1)))
      have KP : Kp (∀ w', Below w.heap.size w w' → w'.cell? ⟨g, o + k * 2, none⟩ = some (.int .i64 xp) ∧ w'.cell? ⟨g, o + k * 2 + 1, none⟩ = some (.slice (some ⟨gl, 0, none⟩) xn xc) ∧ w'.cell? ⟨g', o' + k * 2, none⟩ = some (.int .i64 xp) ∧ w'.cell? ⟨g', o' + k * 2 + 1, none⟩ = some (.slice yA dr.length yc)) := ⟨fun w' hw => by
        obtain ⟨a0, a1⟩ := ((HC.out.below hw).own.src rfl).dv k _ hx
        obtain ⟨b0, b1⟩ := (HB.out.below hw).dv k _ hy
        exact ⟨a0, a1, b0, b1⟩⟩
      have k0 : (0 : Int) ≤ (k : Int) := by omega
      have k1 : (k : Int) < (n : Int) := by omega
      clear hx hy hd p3 p4 q3 a0 a1 b0 b1
      go_wp2
      refine R_begin 999 (fun w9 => w9.cell? ⟨g, o + k * 2, none⟩ = some (.int .i64 xp) ∧ w9.cell? ⟨g, o + k * 2 + 1, none⟩ = some (.slice (some ⟨gl, 0, none⟩) xn xc) ∧ w9.cell? ⟨g', o' + k * 2, none⟩ = some (.int .i64 xp) ∧ w9.cell? ⟨g', o' + k * 2 + 1, none⟩ = some (.slice yA dr.length yc)) (by kernel_rfl) AT.out (fun HP0 => ?_)
      refine R_pure 0 rfl (by kernel_rfl) HP0 ?_
      apply Exists.intro
      refine ⟨fun _ _ _ h => h, .inl ⟨by kernel_rfl, fun w9 h9 => ?_⟩, fun HP1 => ?_⟩
      · clear h9; go_simp; first | done | rfl
      clear HP0
      refine R_pure 1 rfl (by kernel_rfl) HP1 ?_
      apply Exists.intro
      refine ⟨fun _ _ _ h => h, .inl ⟨by kernel_rfl, fun w9 h9 => ?_⟩, fun HP2 => ?_⟩
      · clear h9; go_simp; first | done | rfl
      clear HP1
      refine R_pure 2 rfl (by kernel_rfl) HP2 ?_
      apply Exists.intro
      refine ⟨fun _ _ _ h => h, .inl ⟨by kernel_rfl, fun w9 h9 => ?_⟩, fun HP3 => ?_⟩
      · clear h9; go_simp; first | done | rfl
      clear HP2
      refine R_pure 3 rfl (by kernel_rfl) HP3 ?_
      apply Exists.intro
      refine ⟨fun _ _ _ h => h, .inl ⟨by kernel_rfl, fun w9 h9 => ?_⟩, fun HP4 => ?_⟩
      · clear h9; go_simp; first | done | rfl
      clear HP3
      refine R_take 4 rfl (by kernel_rfl) HP4 ?_
      apply Exists.intro
      refine ⟨fun _ _ _ h => h, .inl ⟨by kernel_rfl, fun w9 h9 => ?_⟩, fun HP5 => ?_⟩
      · obtain ⟨s1, s2, s3, s4⟩ := h9; go_simp; first | done | rfl
      clear HP4
      refine R_pure 5 rfl (by kernel_rfl) HP5 ?_
      apply Exists.intro
      refine ⟨fun _ _ _ h => h, .inl ⟨by kernel_rfl, fun w9 h9 => ?_⟩, fun HP6 => ?_⟩
      · clear h9; go_simp; first | done | rfl
      clear HP5
      refine R_pure 6 rfl (by kernel_rfl) HP6 ?_
      apply Exists.intro
      refine ⟨fun _ _ _ h => h, .inl ⟨by kernel_rfl, fun w9 h9 => ?_⟩, fun HP7 => ?_⟩
      · clear h9; go_simp; first | done | rfl
      clear HP6
      refine R_pure 7 rfl (by kernel_rfl) HP7 ?_
      apply Exists.intro
      refine ⟨fun _ _ _ h => h, .inl ⟨by kernel_rfl, fun w9 h9 => ?_⟩, fun HP8 => ?_⟩
      · clear h9; go_simp; first | done | rfl
      clear HP7
      refine R_pure 8 rfl (by kernel_rfl) HP8 ?_
      apply Exists.intro
      refine ⟨fun _ _ _ h => h, .inl ⟨by kernel_rfl, fun w9 h9 => ?_⟩, fun HP9 => ?_⟩
      · clear h9; go_simp; first | done | rfl
      clear HP8
      refine R_take 9 rfl (by kernel_rfl) HP9 ?_
      apply Exists.intro
      refine ⟨fun _ _ _ h => h, .inl ⟨by kernel_rfl, fun w9 h9 => ?_⟩, fun HP10 => ?_⟩
      · obtain ⟨s1, s2, s3, s4⟩ := h9; go_simp; first | done | rfl
      clear HP9
      refine R_pure 10 rfl (by kernel_rfl) HP10 ?_
      apply Exists.intro
      refine ⟨fun _ _ _ h => h, .inl ⟨by kernel_rfl, fun w9 h9 => ?_⟩, fun HP11 => ?_⟩
      · clear h9; go_simp; first | done | rfl
      clear HP10
      refine R_pure 11 rfl (by kernel_rfl) HP11 ?_
      apply Exists.intro
      refine ⟨fun _ _ _ h => h, .inl ⟨by kernel_rfl, fun w9 h9 => ?_⟩, fun HP12 => ?_⟩
      · clear h9; go_simp; first | done | rfl
      clear HP11
      refine R_pure 12 rfl (by kernel_rfl) HP12 ?_
      apply Exists.intro
      refine ⟨fun _ _ _ h => h, .inl ⟨by kernel_rfl, fun w9 h9 => ?_⟩, fun HP13 => ?_⟩
      · clear h9; go_simp; first | done | rfl
      clear HP12
      refine R_pure 13 rfl (by kernel_rfl) HP13 ?_
      apply Exists.intro
      refine ⟨fun _ _ _ h => h, .inl ⟨by kernel_rfl, fun w9 h9 => ?_⟩, fun HP14 => ?_⟩
      · clear h9; go_simp; first | done | rfl
      clear HP13
      refine R_pure 14 rfl (by kernel_rfl) HP14 ?_
      apply Exists.intro
      refine ⟨fun _ _ _ h => h, .inl ⟨by kernel_rfl, fun w9 h9 => ?_⟩, fun HP15 => ?_⟩
      · clear h9; go_simp; first | done | rfl
      clear HP14
      refine R_pure 15 rfl (by kernel_rfl) HP15 ?_
      apply Exists.intro
      refine ⟨fun _ _ _ h => h, .inl ⟨by kernel_rfl, fun w9 h9 => ?_⟩, fun HP16 => ?_⟩
      · clear h9; go_simp; first | done | rfl
      clear HP15
      refine R_take 16 rfl (by kernel_rfl) HP16 ?_
      apply Exists.intro
      refine ⟨fun _ _ _ h => h, .inl ⟨by kernel_rfl, fun w9 h9 => ?_⟩, fun HP17 => ?_⟩
      · obtain ⟨s1, s2, s3, s4⟩ := h9; go_simp; first | done | rfl
      clear HP16
      refine R_pure 17 rfl (by kernel_rfl) HP17 ?_
      apply Exists.intro
      refine ⟨fun _ _ _ h => h, .inl ⟨by kernel_rfl, fun w9 h9 => ?_⟩, fun HP18 => ?_⟩
      · clear h9; go_simp; first | done | rfl
      clear HP17
      refine R_pure 18 rfl (by kernel_rfl) HP18 ?_
      apply Exists.intro
      refine ⟨fun _ _ _ h => h, .inl ⟨by kernel_rfl, fun w9 h9 => ?_⟩, fun HP19 => ?_⟩
      · clear h9; go_simp; first | done | rfl
      clear HP18
      refine R_pure 19 rfl (by kernel_rfl) HP19 ?_
      apply Exists.intro
      refine ⟨fun _ _ _ h => h, .inl ⟨by kernel_rfl, fun w9 h9 => ?_⟩, fun HP20 => ?_⟩
      · clear h9; go_simp; first | done | rfl
      clear HP19
      refine R_pure 20 rfl (by kernel_rfl) HP20 ?_
      apply Exists.intro
      refine ⟨fun _ _ _ h => h, .inl ⟨by kernel_rfl, fun w9 h9 => ?_⟩, fun HP21 => ?_⟩
      · clear h9; go_simp; first | done | rfl
      clear HP20
      refine R_take 21 rfl (by kernel_rfl) HP21 ?_
      apply Exists.intro
      refine ⟨fun _ _ _ h => h, .inl ⟨by kernel_rfl, fun w9 h9 => ?_⟩, fun HP22 => ?_⟩
      · obtain ⟨s1, s2, s3, s4⟩ := h9; go_simp; first | done | rfl
      clear HP21
      refine R_all [22] (by kernel_rfl) ?_
      refine AllR.cons (i := 22) rfl (fun K9 HK9 => ?_) ?_
      · go_simp
        refine HSM.out.mono ?_
        rintro e w5 ⟨rfl, b5⟩
        have B5 := Kp.mk (bstep HW0.out HW0.out.size b5)
        clear b5
        refine HK9.out _ _ (.inr (KP.out _ B5.out)) (fun HP23 => ?_)
        clear HK9 K9
        refine R_pure 23 rfl (by kernel_rfl) HP23 ?_
        apply Exists.intro
        refine ⟨fun _ _ _ h => h, .inl ⟨by kernel_rfl, fun w9 h9 => ?_⟩, fun HP24 => ?_⟩
        · clear h9; go_simp; first | done | rfl
        clear HP23
        refine R_pure 24 rfl (by kernel_rfl) HP24 ?_
        apply Exists.intro
        refine ⟨fun _ _ _ h => h, .inl ⟨by kernel_rfl, fun w9 h9 => ?_⟩, fun HP25 => ?_⟩
        · clear h9; go_simp; first | done | rfl
        clear HP24
        refine R_done (by kernel_rfl) ?_
        go_wp2
        go_roundw
        case rel => exact ⟨k + 1, by omega, by go_num, B5⟩
        case measure => simp [intOf]; omega
      exact AllR.nil
    · go_wp2
      go_ret
      exact ⟨rfl, HBW.out⟩
/-- A copy of numbers with a mark behind it. -/
structure LentI (w : World) (g n c : Nat) (l : List Int) : Prop where
  hn : n = l.length
  own : Own w 2 eI64 (.slice (some ⟨g, 0, none⟩) (n + 1) c) (l ++ [4321])
def LentIPost (w : World) (l : List Int) (e : Ending) (w' : World) : Prop := ∃ g n c, e = .returned (.slice (some ⟨g, 0, none⟩) n c) ∧ LentI w' g n c l ∧ w.heap.size ≤ g ∧ Below w.heap.size w w'
theorem LentI.src {w : World} {g n c : Nat} {l : List Int} (h : LentI w g n c l) : Src w eI64 (some ⟨g, 0, none⟩) c l := by
  have h1 := (h.own.src rfl).take l.length
  rwa [List.take_left'] at h1
  rfl
theorem LentI.cap {w : World} {g n c : Nat} {l : List Int} (h : LentI w g n c l) : n + 1 ≤ c ∧ c ≤ maxLen := by
  obtain ⟨A, c', hv, h1, h2, _⟩ := h.own.shape
  rw [List.length_append, List.length_singleton] at hv h1
  cases hv
  exact ⟨by rw [h.hn]; exact h1, h2⟩
theorem LentI.frame {w w' : World} {g n c : Nat} {l : List Int} {F : Nat → Prop} (h : LentI w g n c l) (hc : Chg F w w') (hF : ¬ F g) : LentI w' g n c l :=
  ⟨h.hn, h.own.frame hc (fun g' hg' => by
    have e : g = g' := by simpa [Value.ownBlock] using hg'
    exact e ▸ hF)⟩
theorem LentI.below {w w' : World} {g n c : Nat} {l : List Int} (h : LentI w g n c l) (hb : Below w.heap.size w w') : LentI w' g n c l := h.frame (Chg.of_below hb NoF) (fun h => h)
set_option maxRecDepth 100000 in
set_option maxHeartbeats 4000000 in
theorem lentI_any (w : World) (A : Option Addr) (c : Nat) (t : List Int) (hs : Src w eI64 A c t) (hn : t.length ≤ 9000000000000) :
    Calls Tryz.prog 6 #[.slice A t.length c] w (LentIPost w t) := by
  obtain ⟨m, hm⟩ : ∃ m, m = t.length := ⟨_, rfl⟩
  have HM := Kp.mk hm
  rw [← hm]
  rw [← hm] at hn
  clear hm
  have hown : Own w 2 eI64 (.slice none 0 0) [] := Own.nil _ _ _
  go_enter Tryz.func6, Tryz.ntmps6
  go_upto_region 3 with (at_builtin; refine app_ev T50 rfl _ _ rfl hown rfl hs HM.out rfl (by simp only [List.length_nil]; have := HM.out; omega) (by simp only [List.length_nil]; have := HM.out; omega) ?_; intro A1 n1 c1 w2 a0 a1 a2 a3; rw [List.nil_append] at a1; have A1' := Kp.mk a1; have A2' := Kp.mk a2; have A3' := Kp.mk a3; have A0' := a0; clear a1 a2 a3)
  have HB2 : Kp (Below w.heap.size w w2) := ⟨chg_below (Below.refl _ _) A2'.out (fun g hg => by cases hg) (Nat.le_refl _)⟩
  have HF2 : Kp (Fresh w (.slice A1 n1 c1)) := ⟨(Fresh.nil w 0 0).app (Nat.le_refl _) A3'.out⟩
  clear hown A0'
  go_upto_region 4 with (at_builtin; refine app1_ev T50 4321 rfl _ _ rfl A1'.out rfl rfl rfl (by simp) rfl (by have := HM.out; omega) (by have := HM.out; omega) ?_; intro A4 n4 c4 w4 d0 d1 d2 d3; have D1 := Kp.mk d1; have D2 := Kp.mk d2; have D3 := Kp.mk d3; have D0 := d0; clear d0 d1 d2 d3)
  obtain rfl : n4 = m + 1 := by have h1 := D0.out; have := HM.out; omega
  obtain ⟨A5, c5, hv, h4, h5, h6, h7⟩ := D1.out.shape
  have hlen : (t ++ [4321]).length = m + 1 := by rw [List.length_append, ← HM.out]; rfl
  rw [hlen] at hv h4
  cases hv
  obtain ⟨g, rfl⟩ : ∃ g, A4 = some ⟨g, 0, none⟩ := by
    cases A4 with
    | none => have h8 := (h6 rfl).1; simp at h8
    | some a => obtain ⟨g, rfl⟩ := h7 a rfl; exact ⟨g, rfl⟩
  unfold maxLen at h5
  have hF4 : Kp (Fresh w (.slice (some ⟨g, 0, none⟩) (m + 1) c4)) := ⟨HF2.out.app HB2.out.size D3.out⟩
  have hc : m ≤ c4 := by omega
  clear h6 h7 hlen D0
  go_wp2
  go_ret
  exact ⟨g, m, c4, rfl, ⟨HM.out, D1.out⟩, hF4.out g rfl, chg_below HB2.out D2.out (fun g hg => HF2.out g hg) HB2.out.size⟩
set_option maxRecDepth 100000 in
set_option maxHeartbeats 4000000 in
theorem pids_any (w : World) (A B : Option Addr) (c d : Nat) (a : List Int) (ha : Src w eI64 A c a) (hb : Src w eI64 B d a) (hn : a.length ≤ 9000000000000) :
    Calls Tryz.prog 41 #[.slice A a.length c, .slice B a.length d] w fun e w' => e = .returned (.bool true) ∧ Below w.heap.size w w' := by
  have HA := Kp.mk ha
  have HB := Kp.mk hb
  clear ha hb
  obtain ⟨n, hnn⟩ : ∃ n, n = a.length := ⟨_, rfl⟩
  have HN := Kp.mk hnn
  rw [← hnn] at hn ⊢
  clear hnn
  go_enter Tryz.func41, Tryz.ntmps41
  go_wp2
  go_loopw [5, 13] (fun _ i wr => ∃ k : Nat, k ≤ n ∧ i = .int .i64 k ∧ Kp (Below w.heap.size w wr)) (fun _ i _ => n - (intOf i).toNat)
  case atStart => exact ⟨0, Nat.zero_le _, rfl, ⟨Below.refl _ _⟩⟩
  case round =>
    obtain ⟨k, hk, rfl, HBW⟩ := hrel
    by_cases hlt : k < n
    · obtain ⟨x, hx⟩ : ∃ x, a[k]? = some x := ⟨_, List.getElem?_eq_getElem (by have := HN.out; omega)⟩
      obtain ⟨ad, rfl⟩ : ∃ ad, A = some ad := by
        cases A with
        | none => have h9 := (HA.out.none rfl).1; rw [h9] at hx; simp at hx
        | some ad => exact ⟨ad, rfl⟩
      obtain ⟨g, o, rfl⟩ := HA.out.addr (by have := HN.out; omega)
      obtain ⟨bd, rfl⟩ : ∃ bd, B = some bd := by
        cases B with
        | none => have h9 := (HB.out.none rfl).1; rw [h9] at hx; simp at hx
        | some ad => exact ⟨ad, rfl⟩
      obtain ⟨g', o', rfl⟩ := HB.out.addr (by have := HN.out; omega)
      have a0 := (HA.out.below HBW.out).i64 k x hx
      have b0 := (HB.out.below HBW.out).i64 k x hx
      have k0 : (0 : Int) ≤ (k : Int) := by omega
      have k1 : (k : Int) < (n : Int) := by omega
      clear hx
      go_wp2
      go_quiet (fail)
      go_wp2
      go_roundw
      case rel => exact ⟨k + 1, by omega, by go_num, ⟨HBW.out.trans ⟨rfl, rfl, rfl, Nat.le_refl _, fun _ _ => rfl⟩⟩⟩
      case measure => simp [intOf]; omega
    · go_wp2
      go_ret
      exact ⟨rfl, HBW.out⟩
set_option maxRecDepth 100000 in
set_option maxHeartbeats 4000000 in
theorem stays_any (w : World) (B : Option Addr) (g n c d : Nat) (t : List Int) (hl : LentI w g n c t) (hb : Src w eI64 B d t) (hn : t.length ≤ 9000000000000) :
    Calls Tryz.prog 15 #[.slice (some ⟨g, 0, none⟩) n c, .slice B t.length d] w fun e w' => e = .returned (.bool true) ∧ Below w.heap.size w w' := by
  have HS := pids_any w _ _ c d t hl.src hb hn
  have HL := Kp.mk hl
  obtain ⟨h1, h2⟩ := hl.cap
  unfold maxLen at h2
  have hm := hl.hn
  rw [← hm] at HS hn ⊢
  have HC : Kp (∀ w', Below w.heap.size w w' → w'.cell? ⟨g, n, none⟩ = some (.int .i64 4321)) := ⟨fun w' hw => by
    have a2 := ((HL.out.below hw).own.src rfl).i64 n 4321 (by rw [HL.out.hn]; simp)
    rw [Nat.zero_add] at a2
    exact a2⟩
  have HS1 := Kp.mk HS
  have n1 : IntKind.i64.wrap ((n : Int) + 1) = (n : Int) + 1 := IntWalk.i64_in _ (by omega)
  clear HS hm hl hb
  go_enter Tryz.func15, Tryz.ntmps15
  go_wp2_with (go_at_call 41; refine HS1.out.mono ?_; rintro e w1 ⟨rfl, b1⟩; have B1 := Kp.mk b1; have c1 := HC.out _ b1; clear b1)
  go_ret
  exact ⟨rfl, B1.out⟩
end Go.Proofs.YtameidoaenoppaaGreatDoor

namespace Go.Proofs.YtameidoaenoppaaGreatDoor
open Go.RowKit

def SpD (live traps : List Int) (ds : List Dth) (ns : List NB) : List Dth := if wrongE live traps ds = 0 then (sprd live traps ds ns).1.ds else []
def SpT (live traps : List Int) (ds : List Dth) (ns : List NB) : List Dth := if wrongE live traps ds = 0 then (sprd live traps ds ns).1.ts else []
def SpN (live traps : List Int) (ds : List Dth) (ns : List NB) : List NB := if wrongE live traps ds = 0 then (sprd live traps ds ns).2 else ns
theorem bond1_ts {live traps : List Int} {d : Dth} {s : SS} {b : Bd} (h : ∀ e ∈ s.ts, e.r.length ≤ 1030) : ∀ e ∈ (bond1 live traps d s b).ts, e.r.length ≤ 1030 := by
  unfold bond1
  split
  · exact h
  · split
    · intro e he
      rcases List.mem_append.1 he with he | he
      · exact h e he
      · rw [List.mem_singleton.1 he]; exact (downM_len1 _ _ _).2
    · split
      · intro e he
        rcases List.mem_append.1 he with he | he
        · exact h e he
        · rw [List.mem_singleton.1 he]; exact (exitM_len1 _ _).2
      · split <;> exact h
theorem fold_ts {live traps : List Int} {d : Dth} : ∀ (l : List Bd) (s : SS), (∀ e ∈ s.ts, e.r.length ≤ 1030) → ∀ e ∈ (l.foldl (bond1 live traps d) s).ts, e.r.length ≤ 1030
  | [], _, h => h
  | _ :: l, _, h => fold_ts l _ (bond1_ts h)
theorem rnds_ts {live traps : List Int} {st : St} (h : ∀ e ∈ st.1.ts, e.r.length ≤ 1030) : ∀ i, ∀ e ∈ (rnds live traps i st).1.ts, e.r.length ≤ 1030
  | 0 => h
  | i + 1 => by
    have ih := rnds_ts (live := live) (traps := traps) h i
    show ∀ e ∈ (rnd live traps i (rnds live traps i st)).1.ts, e.r.length ≤ 1030
    unfold rnd
    split
    · exact ih
    · exact fold_ts _ _ ih
theorem spD_len (live traps : List Int) (ds : List Dth) (ns : List NB) (last : Int) (hg : GOk ns last) : (SpD live traps ds ns).length ≤ 1099511627776 ∧ (SpT live traps ds ns).length ≤ ds.length + ns.length ∧ (∀ d ∈ SpD live traps ds ns, 1 ≤ d.r.length ∧ d.r.length ≤ 1024) ∧ ∀ d ∈ SpT live traps ds ns, d.r.length ≤ 1030 := by
  unfold SpD SpT
  by_cases h : wrongE live traps ds = 0
  · rw [if_pos h, if_pos h]
    unfold sprd
    have h1 := (okr_startz (traps := traps) h hg).rnds (traps := traps) live.length
    exact ⟨h1.s.len (wrongE_ok h).1, by have := h1.len; omega, fun d hd => rightE_len (h1.s.right d hd), rnds_ts (fun e he => (by cases he)) _⟩
  · rw [if_neg h, if_neg h]
    exact ⟨by simp, by simp, fun d hd => (by cases hd), fun d hd => (by cases hd)⟩
/-- Spread, in one piece. -/
def SprU (w : World) (p bm lm rm : Nat) (live traps : List Int) (ds : List Dth) (ns : List NB) (last : Int) (e : Ending) (w' : World) : Prop :=
  ∃ dv sv vs us, e = .returned (.tuple #[dv, sv, .int .i64 (wrongE live traps ds)]) ∧ OwnT w w' 48 dv vs (SpD live traps ds ns) ∧ OwnT w w' 51 sv us (SpT live traps ds ns) ∧ Ap (vs ++ us) ∧ IsG w' p bm lm rm (SpN live traps ds ns) last ∧ Chg (FG p bm lm rm) w w'
theorem OwnT.nil0 (w0 w : World) (T : TypeId) : OwnT w0 w T (.slice none 0 0) [] [] := ⟨Own.nil _ _ _, rfl, fun i x d h => (by simp at h), Fresh.nil _ _ _, fun x h => (by cases h)⟩
theorem SprAny.u {w : World} {p bm lm rm : Nat} {live traps : List Int} {ds : List Dth} {ns : List NB} {last : Int} {e : Ending} {w' : World} (hg : IsG w p bm lm rm ns last) (h : SprAny w p bm lm rm live traps ds ns last e w') : SprU w p bm lm rm live traps ds ns last e w' := by
  unfold SprU SpD SpT SpN
  rcases h with ⟨hw, dv, sv, vs, us, rfl, k1, k2, k3, k4, k5⟩ | ⟨hw, rfl, hb⟩
  · rw [if_pos hw, if_pos hw, if_pos hw]
    exact ⟨dv, sv, vs, us, by rw [hw], k1, k2, k3, k4, k5⟩
  · rw [if_neg hw, if_neg hw, if_neg hw]
    exact ⟨_, _, [], [], rfl, OwnT.nil0 _ _ _, OwnT.nil0 _ _ _, List.Pairwise.nil, hg.below hb, Chg.of_below hb _⟩
def DSprU (wb w : World) (q : Nat) (lv : Value) (live traps : List Int) (ds : List Dth) (ns : List NB) (e : Ending) (w' : World) : Prop :=
  ∃ dv tv vs us lv', e = .returned (.tuple #[dv, tv, .int .i64 (wrongE live traps ds)]) ∧ DSI wb w w' q lv lv' dv tv vs us ⟨SpD live traps ds ns, SpT live traps ds ns⟩ (sn (SpN live traps ds ns))
set_option maxRecDepth 100000 in
set_option maxHeartbeats 2000000 in
theorem dspread_u (wb w : World) (hbw : Below wb.heap.size wb w) (q : Nat) (lv : Value) (ns : List NB) (last : Int) (A B D : Option Addr) (c1 c2 c3 : Nat) (live traps : List Int) (vs0 : List Dv) (ds : List Dth) (hq : IsD w q lv (sn ns)) (hbase : ∀ g, FD q lv g → wb.heap.size ≤ g) (hg : GOk ns last)
    (ha : Src wb eI64 A c1 live) (hb : Src wb eI64 B c2 traps) (hd : Src wb eDv D c3 vs0) (hr : RdD wb vs0 ds) (hG : ∀ d ∈ ds, TxG d.r)
    (hn1 : live.length ≤ 2000000) (hn2 : traps.length ≤ 2000000) (hn3 : vs0.length ≤ 2000000) (hcc : vs0.length ≤ c3) (hn4 : ∀ d ∈ ds, d.r.length ≤ 9000000000000) :
    Calls Tryz.prog 8 #[.pointer (some ⟨q, 0, none⟩), .slice A live.length c1, .slice B traps.length c2, .slice D vs0.length c3] w (DSprU wb w q lv live traps ds ns) := by
  by_cases hw : wrongE live traps ds = 0
  · refine (dspread_any wb w hbw q lv ns last A B D c1 c2 c3 live traps vs0 ds hq hbase hg ha hb hd hr hG hn1 hn2 hn3 hcc hn4 hw).mono ?_
    rintro e w' ⟨dv, tv, vs, us, lv', rfl, h⟩
    unfold DSprU SpD SpT SpN
    rw [if_pos hw, if_pos hw, if_pos hw]
    exact ⟨dv, tv, vs, us, lv', by rw [hw], h⟩
  · have HWR := Kp.mk (dwrong_any w A B D c1 c2 c3 live traps vs0 ds (ha.below hbw) (hb.below hbw) (hd.below hbw) (hr.below hbw) hG hn1 hn2 hn3 hcc hn4)
    have HN := Kp.mk hw
    have he : (wrongE live traps ds != 0) = true := by simpa using hw
    obtain ⟨E, hE⟩ : ∃ E, E = wrongE live traps ds := ⟨_, rfl⟩
    have HE := Kp.mk hE
    rw [← hE] at HWR he
    have HB := Kp.mk hbw
    have HQ := Kp.mk hq
    have HS := Kp.mk hbase
    clear hbw hq hbase hg ha hb hd hr hG hw hE hn1 hn2 hn3 hcc hn4
    go_enter Tryz.func8, Tryz.ntmps8
    go_wp2_with (go_at_call 31; refine HWR.out.mono ?_; rintro e w1 ⟨rfl, b1⟩; have B1 := Kp.mk b1; clear b1)
    go_ret3
    unfold DSprU SpD SpT SpN
    rw [if_neg HN.out, if_neg HN.out, if_neg HN.out]
    exact ⟨_, _, [], [], lv, by rw [HE.out]; rfl, Own.nil _ _ _, ⟨rfl, fun i v d h => (by simp at h)⟩, ⟨Own.nil _ _ _, rfl, fun i x d h => (by simp at h)⟩, HQ.out.below B1.out, Fresh.nil _ _ _, Fresh.nil _ _ _, Chg.of_below B1.out _, fun g hg => .inl hg, HQ.out.lt, bstep HB.out HB.out.size B1.out, HS.out, HB.out.size, fun x hx => (by cases hx)⟩
/-- Texts of so many, spoilt. -/
def FS (vs : List Dv) (i : Nat) : Nat → Prop := fun g => ∃ x ∈ vs.take i, (tb x).ownBlock = some g
theorem fs_step {w w1 w2 : World} {vs : List Dv} {i : Nat} {x : Dv} (hx : vs[i]? = some x) (h : Chg (FS vs i) w w1) (hc : Chg (fun g => (tb x).ownBlock = some g) w1 w2) : Chg (FS vs (i + 1)) w w2 := by
  refine (h.mono (fun g _ hg => ?_)).trans hc (fun g _ hg => ?_)
  · obtain ⟨y, hy, h9⟩ := hg
    exact ⟨y, by rw [List.take_add_one]; exact List.mem_append_left _ hy, h9⟩
  · exact ⟨x, by rw [List.take_add_one, hx]; exact List.mem_append_right _ (List.mem_singleton.2 rfl), hg⟩
theorem ap_fs {vs : List Dv} (h : Ap vs) {i : Nat} {x : Dv} (hx : vs[i]? = some x) : ∀ g, (tb x).ownBlock = some g → ¬ FS vs i g := fun g hg hf => by
  obtain ⟨y, hy, h9⟩ := hf
  obtain ⟨k, hk⟩ := List.mem_iff_getElem?.1 hy
  rw [List.getElem?_take] at hk
  have hki : k < i := by
    by_cases h : k < i
    · exact h
    · rw [if_neg h] at hk; cases hk
  rw [if_pos hki] at hk
  obtain ⟨a1, e1⟩ := List.getElem?_eq_some_iff.1 hk
  obtain ⟨a2, e2⟩ := List.getElem?_eq_some_iff.1 hx
  have := List.pairwise_iff_getElem.1 h k i a1 a2 hki
  rw [e1, e2] at this
  exact this g h9 hg
theorem ap_left {a b : List Dv} (h : Ap (a ++ b)) : Ap a := (List.pairwise_append.1 h).1
theorem ap_right {a b : List Dv} (h : Ap (a ++ b)) : Ap b := (List.pairwise_append.1 h).2.1
theorem ap_cross {a b : List Dv} (h : Ap (a ++ b)) {x y : Dv} (hx : x ∈ a) (hy : y ∈ b) : ∀ g, (tb x).ownBlock = some g → (tb y).ownBlock ≠ some g := (List.pairwise_append.1 h).2.2 x hx y hy
theorem fs_off {w0 w : World} {T T' : TypeId} {v : Value} {vs : List Dv} {ds : List Dth} (h : OwnT w0 w T v vs ds) (hT : T' ≠ 63) (i : Nat) : Off w (FS vs i) T' := fun g cur hF hg => by
  obtain ⟨x, hx, h9⟩ := hF
  obtain ⟨r, hr⟩ := h.txt (List.mem_of_mem_take hx)
  exact hr.ne hg (fun e => hT e.symm) h9
theorem fs_low {w0 w : World} {T : TypeId} {v : Value} {vs : List Dv} {ds : List Dth} (h : OwnT w0 w T v vs ds) (i : Nat) : ∀ g, FS vs i g → w0.heap.size ≤ g ∧ g < w.heap.size := fun g hF => by
  obtain ⟨x, hx, h9⟩ := hF
  obtain ⟨r, hr⟩ := h.txt (List.mem_of_mem_take hx)
  exact ⟨h.frs x (List.mem_of_mem_take hx) g h9, hr.lt h9⟩
/-- What is looked at in the end. -/
structure Kpt (w wc w6 : World) (vF : Value) (fs : List Dv) (ds : List Dth) (gl nl cl : Nat) (live : List Int) (gt nt ct : Nat) (traps : List Int) (tv : Value) (us : List Dv) (yv : Value) (ys : List Dv) (T : List Dth) (wA : World) (bx : Nat) (ob : Obj) : Prop where
  f : CopM w wA vF fs ds
  l : LentI wA gl nl cl live
  t : LentI wA gt nt ct traps
  y : TelM wA yv ys T
  yf : ∀ x ∈ ys, Fresh w6 (tb x)
  fl : ∀ (i : Nat) x g, fs[i]? = some x → x.A = some ⟨g, 0, none⟩ → g < wc.heap.size
  b : wA.heap[bx]? = some ob
section
variable {w wc w6 wA wB : World} {vF : Value} {fs : List Dv} {ds : List Dth} {gl nl cl : Nat} {live : List Int} {gt nt ct : Nat} {traps : List Int} {tv : Value} {us : List Dv} {yv : Value} {ys : List Dv} {T : List Dth} {bx : Nat} {ob : Obj}
theorem Kpt.below (h : Kpt w wc w6 vF fs ds gl nl cl live gt nt ct traps tv us yv ys T wA bx ob) (hb : Below wA.heap.size wA wB) : Kpt w wc w6 vF fs ds gl nl cl live gt nt ct traps tv us yv ys T wB bx ob :=
  ⟨h.f.below hb, h.l.below hb, h.t.below hb, h.y.below hb, h.yf, h.fl, (Chg.of_below hb NoF).at h.b (fun h => h)⟩
theorem Kpt.spoil (h : Kpt w wc w6 vF fs ds gl nl cl live gt nt ct traps tv us yv ys T wA bx ob) {F : Nat → Prop} (hc : Chg F wA wB) (h1 : Off wA F 48) (h2 : Off wA F 2) (h3 : Off wA F 51) (h4 : ∀ g, F g → wc.heap.size ≤ g) (h5 : ∀ g, F g → g < w6.heap.size) (h6 : bx < wc.heap.size) :
    Kpt w wc w6 vF fs ds gl nl cl live gt nt ct traps tv us yv ys T wB bx ob := by
  obtain ⟨cl', hcl⟩ := h.l.own.blk
  obtain ⟨ct', hct⟩ := h.t.own.blk
  refine ⟨h.f.frame hc (h.f.own.off h1) (fun i x g hx hg hF => by have a1 := h.fl i x g hx hg; have a2 := h4 g hF; omega), h.l.frame hc (fun hF => h2 _ _ hF hcl), h.t.frame hc (fun hF => h2 _ _ hF hct), ⟨h.y.own.frame hc (h.y.own.off h3), h.y.len, fun i x d hx hd => ?_⟩, h.yf, h.fl, hc.at h.b (fun hF => by have := h4 _ hF; omega)⟩
  obtain ⟨k1, k2⟩ := h.y.tx i x d hx hd
  refine ⟨k1, ?_⟩
  obtain ⟨g, cur, e1, e2⟩ := k2.at_
  have hgF : ¬ F g := fun hF => by
    have := h.yf x (List.mem_of_getElem? hx) g (by unfold tb; rw [e1]; rfl)
    have := h5 g hF
    omega
  have hb : wB.heap[g]? = wA.heap[g]? := hc.block g (lt_of_block e2) hgF
  refine ⟨k2.n, ?_, g, cur, e1, hb.trans e2⟩
  have := k2.src
  rw [e1] at this ⊢
  exact this.blk hb
end
set_option maxRecDepth 100000 in
set_option maxHeartbeats 16000000 in
theorem signalSpreads_any (w : World) (A0 : Option Addr) (c0 : Nat) (ops : List OpM) (A1 : Option Addr) (c1 : Nat) (live : List Int) (A2 : Option Addr) (c2 : Nat) (traps : List Int) (A3 : Option Addr) (c3 : Nat) (vs : List Dv) (ds : List Dth)
    (hm : CaseM w A0 c0 ops A1 c1 live A2 c2 traps A3 c3 vs ds) (hs1 : live.length ≤ 2000000) (hs2 : traps.length ≤ 2000000) (hs3 : vs.length ≤ 2000000) (hT : Tabs w) :
    Calls Tryz.prog 3 #[caseV A0 c0 ops.length A1 c1 live.length A2 c2 traps.length A3 c3 vs.length] w fun e w' => e = .returned (.bool true) ∧ Below w.heap.size w w' := by
  have HM := Kp.mk hm
  have HT := Kp.mk hT
  have HMB := Kp.mk (made_beg hm)
  have HS1 := Kp.mk hs1
  have HS2 := Kp.mk hs2
  have HS3 := Kp.mk hs3
  clear hm hT hs1 hs2 hs3
  obtain ⟨n0, h0⟩ : ∃ n, n = ops.length := ⟨_, rfl⟩
  obtain ⟨n1, h1⟩ : ∃ n, n = live.length := ⟨_, rfl⟩
  obtain ⟨n2, h2⟩ : ∃ n, n = traps.length := ⟨_, rfl⟩
  obtain ⟨n3, h3⟩ : ∃ n, n = vs.length := ⟨_, rfl⟩
  have N := Kp.mk (And.intro h0 (And.intro h1 (And.intro h2 h3)))
  unfold caseV
  rw [← h0, ← h1, ← h2, ← h3] at HMB ⊢
  clear h0 h1 h2 h3
  have hn3 : n3 ≤ 2000000 := by have := HS3.out; have := N.out.2.2.2; omega
  have DL : Kp (ds.length = n3) := ⟨by rw [N.out.2.2.2]; exact HM.out.rd.len.symm⟩
  go_enter Tryz.func3, Tryz.ntmps3
  go_wp2_with fail
  refine HMB.out.mono ?_
  rintro e w2 ⟨p, bm, lm, rm, q, lv, ns, last, rfl, hbg⟩
  have HBG := Kp.mk (hbg.below (Below.refl _ w2).drew)
  have bx := HBG.out.box
  rw [← N.out.1, ← N.out.2.1, ← N.out.2.2.1, ← N.out.2.2.2] at bx
  have BX := Kp.mk bx
  have AT := Kp.mk (And.intro (blk_c bx 1) (And.intro (blk_c bx 2) (blk_c bx 3)))
  have HCO := Kp.mk (copied_any w2.drew A3 c3 vs ds HBG.out.cm.s3 HBG.out.cm.rd HBG.out.cm.n3 HBG.out.cm.n4)
  rw [← N.out.2.2.2] at HCO
  have LL : Kp (last ≤ 1000000000000000000) := ⟨by have := HBG.out.last; omega⟩
  obtain ⟨ob, hob⟩ : ∃ ob, ob = Obj.cells #[.slice A0 n0 c0, .slice A1 n1 c1, .slice A2 n2 c2, .slice A3 n3 c3] 26 (0, 0) := ⟨_, rfl⟩
  have OB := Kp.mk hob
  clear hbg bx hob
  go_upto_region 4 with fail
  refine R_begin 999 (fun w9 => w9.cell? ⟨w.heap.size, 1, none⟩ = some (.slice A1 n1 c1) ∧ w9.cell? ⟨w.heap.size, 2, none⟩ = some (.slice A2 n2 c2) ∧ w9.cell? ⟨w.heap.size, 3, none⟩ = some (.slice A3 n3 c3)) (by kernel_rfl) AT.out (fun HP0 => ?_)
  refine R_pure 0 rfl (by kernel_rfl) HP0 ?_
  apply Exists.intro
  refine ⟨fun _ _ _ h => h, .inl ⟨by kernel_rfl, fun w9 h9 => ?_⟩, fun HP1 => ?_⟩
  · clear h9; go_simp; first | done | rfl
  clear HP0
  refine R_take 1 rfl (by kernel_rfl) HP1 ?_
  apply Exists.intro
  refine ⟨fun _ _ _ h => h, .inl ⟨by kernel_rfl, fun w9 h9 => ?_⟩, fun HP2 => ?_⟩
  · obtain ⟨s1, s2, s3⟩ := h9; go_simp; first | done | rfl
  clear HP1
  refine R_pure 3 rfl (by kernel_rfl) HP2 ?_
  apply Exists.intro
  refine ⟨fun _ _ _ h => h, .inl ⟨by kernel_rfl, fun w9 h9 => ?_⟩, fun HP3 => ?_⟩
  · clear h9; go_simp; first | done | rfl
  clear HP2
  refine R_take 4 rfl (by kernel_rfl) HP3 ?_
  apply Exists.intro
  refine ⟨fun _ _ _ h => h, .inl ⟨by kernel_rfl, fun w9 h9 => ?_⟩, fun HP4 => ?_⟩
  · obtain ⟨s1, s2, s3⟩ := h9; go_simp; first | done | rfl
  clear HP3
  refine R_pure 6 rfl (by kernel_rfl) HP4 ?_
  apply Exists.intro
  refine ⟨fun _ _ _ h => h, .inl ⟨by kernel_rfl, fun w9 h9 => ?_⟩, fun HP5 => ?_⟩
  · clear h9; go_simp; first | done | rfl
  clear HP4
  refine R_take 7 rfl (by kernel_rfl) HP5 ?_
  apply Exists.intro
  refine ⟨fun _ _ _ h => h, .inl ⟨by kernel_rfl, fun w9 h9 => ?_⟩, fun HP6 => ?_⟩
  · obtain ⟨s1, s2, s3⟩ := h9; go_simp; first | done | rfl
  clear HP5
  refine R_all [2] (by kernel_rfl) ?_
  refine AllR.cons (i := 2) rfl (fun K9 HK9 => ?_) ?_
  · go_simp
    refine HCO.out.mono ?_
    rintro e w3 ⟨v3, fs, rfl, k3, bb3⟩
    obtain ⟨A4, c4, hv, hc4, _, _, _⟩ := k3.own.shape
    subst hv
    rw [k3.len, DL.out] at k3 hc4 ⊢
    have K3 := Kp.mk k3
    have G3 := Kp.mk (HBG.out.below bb3)
    have HLI := Kp.mk (lentI_any w3 A1 c1 live G3.out.cm.s1 (by have := HS1.out; omega))
    rw [← N.out.2.1] at HLI
    clear k3 bb3
    go_simp
    refine HK9.out _ _ (.inr (by have bx := G3.out.box; rw [← N.out.1, ← N.out.2.1, ← N.out.2.2.1, ← N.out.2.2.2] at bx; exact ⟨blk_c bx 1, blk_c bx 2, blk_c bx 3⟩)) (fun HP7 => ?_)
    clear HK9 K9
    refine R_all [5] (by kernel_rfl) ?_
    refine AllR.cons (i := 5) rfl (fun K9 HK9 => ?_) ?_
    · go_simp
      refine HLI.out.mono ?_
      rintro e w4 ⟨gl, nl, cl, rfl, l4, g4, b4⟩
      have K4 := Kp.mk (K3.out.below b4)
      have L4 := Kp.mk l4
      have GL4 := Kp.mk g4
      have G4 := Kp.mk (G3.out.below b4)
      have HLT := Kp.mk (lentI_any w4 A2 c2 traps G4.out.cm.s2 (by have := HS2.out; omega))
      rw [← N.out.2.2.1] at HLT
      clear l4 b4 g4
      go_simp
      refine HK9.out _ _ (.inr (by have bx := G4.out.box; rw [← N.out.1, ← N.out.2.1, ← N.out.2.2.1, ← N.out.2.2.2] at bx; exact ⟨blk_c bx 1, blk_c bx 2, blk_c bx 3⟩)) (fun HP8 => ?_)
      clear HK9 K9
      refine R_all [8] (by kernel_rfl) ?_
      refine AllR.cons (i := 8) rfl (fun K9 HK9 => ?_) ?_
      · go_simp
        refine HLT.out.mono ?_
        rintro e w5 ⟨gt, nt, ct, rfl, l5, g5, b5⟩
        have K5 := Kp.mk (K4.out.below b5)
        have L5 := Kp.mk (L4.out.below b5)
        have T5 := Kp.mk l5
        have G5 := Kp.mk (G4.out.below b5)
        clear l5 b5 g5
        go_simp
        refine HK9.out _ _ (.inr (by have bx := G5.out.box; rw [← N.out.1, ← N.out.2.1, ← N.out.2.2.1, ← N.out.2.2.2] at bx; exact ⟨blk_c bx 1, blk_c bx 2, blk_c bx 3⟩)) (fun HP9 => ?_)
        clear HK9 K9
        refine R_pure 9 rfl (by kernel_rfl) HP9 ?_
        apply Exists.intro
        refine ⟨fun _ _ _ h => h, .inl ⟨by kernel_rfl, fun w9 h9 => ?_⟩, fun HP10 => ?_⟩
        · clear h9; go_simp; first | done | rfl
        clear HP9
        refine R_pure 10 rfl (by kernel_rfl) HP10 ?_
        apply Exists.intro
        refine ⟨fun _ _ _ h => h, .inl ⟨by kernel_rfl, fun w9 h9 => ?_⟩, fun HP11 => ?_⟩
        · clear h9; go_simp; first | done | rfl
        clear HP10
        refine R_pure 11 rfl (by kernel_rfl) HP11 ?_
        apply Exists.intro
        refine ⟨fun _ _ _ h => h, .inl ⟨by kernel_rfl, fun w9 h9 => ?_⟩, fun HP12 => ?_⟩
        · clear h9; go_simp; first | done | rfl
        clear HP11
        refine R_done (by kernel_rfl) ?_
        obtain rfl : nl = n1 := L5.out.hn.trans N.out.2.1.symm
        obtain rfl : nt = n2 := T5.out.hn.trans N.out.2.2.1.symm
        have hfl : fs.length = n3 := K5.out.len.trans DL.out
        have hcc : fs.length ≤ c4 := by rw [hfl]; exact hc4
        have hsp := spread_all w5 p bm lm rm ns last (some ⟨gl, 0, none⟩) (some ⟨gt, 0, none⟩) A4 cl ct c4 live traps fs ds G5.out.g LL.out L5.out.src T5.out.src (K5.out.own.src rfl) K5.out.rd (fun w' hc => HT.out.below (chg_below G5.out.bel hc (fun g hg => Nat.le_of_lt (G5.out.fg g hg)) G5.out.bel.size)) (by have := HS1.out; omega) (by have := HS2.out; omega) (by omega) hcc (fun d hd => by have := (HM.out.n4 d hd).2; omega)
        rw [hfl, ← N.out.2.1, ← N.out.2.2.1] at hsp
        have HSP := Kp.mk hsp
        clear hsp hcc hfl
        go_wp2_with fail
        refine HSP.out.mono ?_
        intro e w6 hsp6
        obtain ⟨dv, tv, vs6, us6, rfl, k1, k2, k3, k4, k5⟩ := hsp6.u G5.out.g
        clear hsp6
        obtain ⟨hbel, hcm, hid, hbx⟩ := G5.out.spread HM.out k5
        obtain ⟨DD, hDD⟩ : ∃ D, D = SpD live traps ds ns := ⟨_, rfl⟩
        obtain ⟨TT, hTT⟩ : ∃ T, T = SpT live traps ds ns := ⟨_, rfl⟩
        obtain ⟨NN, hNN⟩ : ∃ N, N = SpN live traps ds ns := ⟨_, rfl⟩
        obtain ⟨er, her⟩ : ∃ E, E = wrongE live traps ds := ⟨_, rfl⟩
        have SL := spD_len live traps ds ns last G5.out.g.ok
        rw [← hDD, ← hTT] at SL
        have SLK := Kp.mk SL
        rw [← hDD] at k1
        rw [← hTT] at k2
        rw [← hNN] at k4
        have K1 := Kp.mk k1
        have K2 := Kp.mk k2
        have K3 := Kp.mk k3
        have KG := Kp.mk k4
        have KC := Kp.mk k5
        have HB6 := Kp.mk hbel
        have HID6 := Kp.mk hid
        have HBX6 := Kp.mk hbx
        obtain ⟨Da, dc, hv1, _⟩ := k1.own.shape
        obtain ⟨Ta, tc, hv2, _⟩ := k2.own.shape
        obtain ⟨md, hmd⟩ : ∃ m, m = DD.length := ⟨_, rfl⟩
        obtain ⟨mt, hmt⟩ : ∃ m, m = TT.length := ⟨_, rfl⟩
        have MD := Kp.mk hmd
        have MT := Kp.mk hmt
        rw [k1.len, ← hmd] at hv1
        rw [k2.len, ← hmt] at hv2
        subst hv1
        subst hv2
        have hnsl : ns.length ≤ 1024 := G5.out.g.ok.len
        have mdb : md ≤ 1099511627776 := by rw [hmd]; exact SL.1
        have mtb : mt ≤ 3000000 := by rw [hmt]; have := SL.2.1; have := DL.out; omega
        have hdsu := dspread_u w w6 hbel q lv ns last A1 A2 A3 c1 c2 c3 live traps vs ds hid (fun g hg => Nat.le_of_lt (G5.out.fd g hg)) G5.out.g.ok HM.out.s1 HM.out.s2 HM.out.s3 HM.out.rd (fun d hd => (HM.out.n4 d hd).1) HS1.out HS2.out HS3.out HM.out.cc (fun d hd => by have := (HM.out.n4 d hd).2; omega)
        rw [← N.out.2.1, ← N.out.2.2.1, ← N.out.2.2.2] at hdsu
        unfold DSprU at hdsu
        rw [← hDD, ← hTT, ← hNN, ← her] at hdsu
        rw [← her]
        have HDS := Kp.mk hdsu
        rw [← N.out.1, ← N.out.2.1, ← N.out.2.2.1, ← N.out.2.2.2] at hbx
        have bx1 := blk_c hbx 1
        have bx2 := blk_c hbx 2
        have bx3 := blk_c hbx 3
        clear hdsu hbx SL hDD hTT hNN her k1 k2 k3 k4 k5 hbel hcm hid hmd hmt
        go_wp2_with fail
        refine HDS.out.mono ?_
        rintro e w7 ⟨xv, yv, xs, ys, lv7, rfl, D7⟩
        obtain ⟨Xa, xc, hv1, _⟩ := D7.d.shape
        obtain ⟨Ya, yc, hv2, _⟩ := D7.t.own.shape
        have hxl : xs.length = md := D7.rd.len.trans MD.out.symm
        have hyl : ys.length = mt := D7.t.len.trans MT.out.symm
        rw [hxl] at hv1
        rw [hyl] at hv2
        subst hv1
        subst hv2
        have C7 := Kp.mk D7.chg
        have OF := fun (T : TypeId) (h1 : T ≠ 44) (h2 : T ≠ 71) => offD HID6.out h1 h2
        have P1 := Kp.mk (K1.out.off C7.out (OF _ (by decide) (by decide)) (OF _ (by decide) (by decide)))
        have P2 := Kp.mk (K2.out.off C7.out (OF _ (by decide) (by decide)) (OF _ (by decide) (by decide)))
        have OFG := fun (T : TypeId) (h1 : T ≠ 87) => offG G5.out.g h1
        have lblk : ∀ {W : World} {g n c : Nat} {t : List Ce}, LentM W g n c t → ∃ cur, W.heap[g]? = some (.cells cur 63 (0, 0)) := fun h => h.own.blk
        have hcop : CopM w2.drew w7 (.slice A4 n3 c4) fs ds := by
          have h6 := K5.out.frame KC.out (K5.out.own.off (OFG _ (by decide))) (fun i x g hx hg hF => by
            obtain ⟨d, hd⟩ : ∃ d, ds[i]? = some d := ⟨_, List.getElem?_eq_getElem (by rw [← K5.out.len]; exact (List.getElem?_eq_some_iff.1 hx).1)⟩
            obtain ⟨_, g', e1, e2, _⟩ := K5.out.tx i x d hx hd
            rw [hg] at e1; cases e1
            obtain ⟨cur, hcur⟩ := lblk e2
            exact OFG _ (by decide) _ cur hF hcur)
          exact h6.frame C7.out (h6.own.off (OF _ (by decide) (by decide))) (fun i x g hx hg hF => by
            obtain ⟨d, hd⟩ : ∃ d, ds[i]? = some d := ⟨_, List.getElem?_eq_getElem (by rw [← h6.len]; exact (List.getElem?_eq_some_iff.1 hx).1)⟩
            obtain ⟨_, g', e1, e2, _⟩ := h6.tx i x d hx hd
            rw [hg] at e1; cases e1
            obtain ⟨cur, hcur⟩ := lblk e2
            exact OF _ (by decide) (by decide) _ cur hF hcur)
        have ifr : ∀ {gI nI cI : Nat} {l : List Int}, LentI w5 gI nI cI l → LentI w7 gI nI cI l := fun {gI nI cI l} h => by
          obtain ⟨cur, hcur⟩ := h.own.blk
          have h6 := h.frame KC.out (fun hF => OFG _ (by decide) _ cur hF hcur)
          obtain ⟨cur6, hcur6⟩ := h6.own.blk
          exact h6.frame C7.out (fun hF => OF _ (by decide) (by decide) _ cur6 hF hcur6)
        have KPT : Kp (Kpt w2.drew w5 w6 (.slice A4 n3 c4) fs ds gl nl cl live gt nt ct traps (.slice Ta mt tc) us6 (.slice Ya mt yc) ys TT w7 w.heap.size ob) := ⟨⟨hcop, ifr L5.out, ifr T5.out, D7.t, D7.frx, fun i x g hx hg => by
          obtain ⟨d, hd⟩ : ∃ d, ds[i]? = some d := ⟨_, List.getElem?_eq_getElem (by rw [← K5.out.len]; exact (List.getElem?_eq_some_iff.1 hx).1)⟩
          obtain ⟨_, g', e1, e2, _⟩ := K5.out.tx i x d hx hd
          rw [hg] at e1; cases e1
          exact e2.own.lt rfl, by
          rw [OB.out, N.out.1, N.out.2.1, N.out.2.2.1, N.out.2.2.2]
          exact C7.out.at HBX6.out (fun hF => by have := G5.out.fd _ hF; omega)⟩⟩
        have HB7 := Kp.mk D7.bel
        have HD7 := Kp.mk (D7.d.src rfl)
        have HR7 := Kp.mk (D7.rd.below D7.bel)
        have HG7 := Kp.mk D7.g
        have KG7 : Kp (IsG w7 p bm lm rm NN last) := ⟨⟨KG.out.g.frame C7.out (fun g h1 h2 => apart KG.out HID6.out g h1 h2), KG.out.ok⟩⟩
        have LVS : Kp (∃ A c, lv7 = .slice A (sn NN).length c ∧ w7.cell? ⟨q, 0, none⟩ = some (.slice A (sn NN).length c)) := ⟨D7.g.sh⟩
        have RD1 : Kp (RdD w7 vs6 DD) := ⟨⟨P1.out.len, fun i x d hx hd => ⟨(P1.out.tx i x d hx hd).1, (P1.out.tx i x d hx hd).2.1, (P1.out.tx i x d hx hd).2.2.src rfl⟩⟩⟩
        clear D7 OF OFG hcop lblk ifr bx1 bx2 bx3
        obtain ⟨Lq, lc, hlv7, hcq⟩ := LVS.out
        obtain ⟨nn, hnn⟩ : ∃ n, n = (sn NN).length := ⟨_, rfl⟩
        have NNK := Kp.mk hnn
        rw [← hnn] at hlv7 hcq
        have HLQ := Kp.mk hlv7
        have hnnb : nn ≤ 1024 := by rw [hnn]; exact KG.out.ok.n1024
        have AQ : Kp (w7.drew.cell? ⟨q, 0, none⟩ = some (.slice Lq nn lc)) := ⟨hcq⟩
        have hb7 := (Below.refl w7.heap.size w7).drew
        have hde := deaths_any w7.drew Da Xa dc xc vs6 xs DD ((P1.out.own.src rfl).below hb7) (HD7.out.below hb7) (RD1.out.below hb7) (HR7.out.below hb7) (by have := MD.out; omega) (fun d hd => by have := (SLK.out.2.2.1 d hd).2; omega)
        rw [P1.out.len, ← MD.out, hxl] at hde
        have HDE := Kp.mk hde
        have VL := Kp.mk P1.out.len
        have UL := Kp.mk P2.out.len
        have YL := Kp.mk hyl
        have TXL : Kp (∀ d ∈ TT, d.r.length ≤ 9000000000000) := ⟨fun d hd => by have := SLK.out.2.2.2 d hd; omega⟩
        clear hlv7 hcq hnn hxl hyl hde hb7
        go_upto_region 7 with fail
        refine R_begin 999 (fun w9 => w9.cell? ⟨q, 0, none⟩ = some (.slice Lq nn lc)) (by kernel_rfl) AQ.out (fun HP0 => ?_)
        refine R_pure 0 rfl (by kernel_rfl) HP0 ?_
        apply Exists.intro
        refine ⟨fun _ _ _ h => h, .inl ⟨by kernel_rfl, fun w9 h9 => ?_⟩, fun HP1 => ?_⟩
        · clear h9; go_simp; first | done | rfl
        clear HP0
        refine R_pure 1 rfl (by kernel_rfl) HP1 ?_
        apply Exists.intro
        refine ⟨fun _ _ _ h => h, .inl ⟨by kernel_rfl, fun w9 h9 => ?_⟩, fun HP2 => ?_⟩
        · clear h9; go_simp; first | done | rfl
        clear HP1
        refine R_all [2] (by kernel_rfl) ?_
        refine AllR.cons (i := 2) rfl (fun K9 HK9 => ?_) ?_
        · go_simp
          refine HDE.out.mono ?_
          rintro e w8 ⟨rfl, b8⟩
          have B8 := Kp.mk ((Below.refl w7.heap.size w7).drew.trans (b8.mono (Below.refl w7.heap.size w7).drew.size))
          have AQ8 : Kp (w8.cell? ⟨q, 0, none⟩ = some (.slice Lq nn lc)) := ⟨(b8.cell (World.block_lt_of_cell? _ _ AQ.out)).trans AQ.out⟩
          have hte := tells_any w8 Ta Ya tc yc us6 ys TT ((P2.out.own.src rfl).below B8.out) ((KPT.out.y.own.src rfl).below B8.out) (RdD.below ⟨P2.out.len, fun i x d hx hd => ⟨(P2.out.tx i x d hx hd).1, (P2.out.tx i x d hx hd).2.1, (P2.out.tx i x d hx hd).2.2.src rfl⟩⟩ B8.out) (KPT.out.y.rd.below B8.out) (by have := MT.out; omega) TXL.out
          rw [UL.out, ← MT.out, YL.out] at hte
          have HTE := Kp.mk hte
          clear b8 hte
          go_simp
          refine HK9.out _ _ (.inr AQ8.out) (fun HP3 => ?_)
          clear HK9 K9
          refine R_pure 3 rfl (by kernel_rfl) HP3 ?_
          apply Exists.intro
          refine ⟨fun _ _ _ h => h, .inl ⟨by kernel_rfl, fun w9 h9 => ?_⟩, fun HP4 => ?_⟩
          · clear h9; go_simp; first | done | rfl
          clear HP3
          refine R_pure 4 rfl (by kernel_rfl) HP4 ?_
          apply Exists.intro
          refine ⟨fun _ _ _ h => h, .inl ⟨by kernel_rfl, fun w9 h9 => ?_⟩, fun HP5 => ?_⟩
          · clear h9; go_simp; first | done | rfl
          clear HP4
          refine R_pure 5 rfl (by kernel_rfl) HP5 ?_
          apply Exists.intro
          refine ⟨fun _ _ _ h => h, .inl ⟨by kernel_rfl, fun w9 h9 => ?_⟩, fun HP6 => ?_⟩
          · clear h9; go_simp; first | done | rfl
          clear HP5
          refine R_pure 6 rfl (by kernel_rfl) HP6 ?_
          apply Exists.intro
          refine ⟨fun _ _ _ h => h, .inl ⟨by kernel_rfl, fun w9 h9 => ?_⟩, fun HP7 => ?_⟩
          · clear h9; go_simp; first | done | rfl
          clear HP6
          refine R_all [7] (by kernel_rfl) ?_
          refine AllR.cons (i := 7) rfl (fun K9 HK9 => ?_) ?_
          · go_simp
            refine HTE.out.mono ?_
            rintro e w9x ⟨rfl, b9⟩
            have B9 := Kp.mk (bstep B8.out B8.out.size b9)
            have AQ9 : Kp (w9x.cell? ⟨q, 0, none⟩ = some (.slice Lq nn lc)) := ⟨(b9.cell (World.block_lt_of_cell? _ _ AQ8.out)).trans AQ8.out⟩
            have HAL := Kp.mk (all_any (KG7.out.below B9.out) LL.out)
            clear b9
            go_simp
            refine HK9.out _ _ (.inr AQ9.out) (fun HP8 => ?_)
            clear HK9 K9
            refine R_pure 8 rfl (by kernel_rfl) HP8 ?_
            apply Exists.intro
            refine ⟨fun _ _ _ h => h, .inl ⟨by kernel_rfl, fun w9 h9 => ?_⟩, fun HP9 => ?_⟩
            · clear h9; go_simp; first | done | rfl
            clear HP8
            refine R_pure 9 rfl (by kernel_rfl) HP9 ?_
            apply Exists.intro
            refine ⟨fun _ _ _ h => h, .inl ⟨by kernel_rfl, fun w9 h9 => ?_⟩, fun HP10 => ?_⟩
            · clear h9; go_simp; first | done | rfl
            clear HP9
            refine R_pure 10 rfl (by kernel_rfl) HP10 ?_
            apply Exists.intro
            refine ⟨fun _ _ _ h => h, .inl ⟨by kernel_rfl, fun w9 h9 => ?_⟩, fun HP11 => ?_⟩
            · clear h9; go_simp; first | done | rfl
            clear HP10
            refine R_pure 11 rfl (by kernel_rfl) HP11 ?_
            apply Exists.intro
            refine ⟨fun _ _ _ h => h, .inl ⟨by kernel_rfl, fun w9 h9 => ?_⟩, fun HP12 => ?_⟩
            · clear h9; go_simp; first | done | rfl
            clear HP11
            refine R_pure 12 rfl (by kernel_rfl) HP12 ?_
            apply Exists.intro
            refine ⟨fun _ _ _ h => h, .inl ⟨by kernel_rfl, fun w9 h9 => ?_⟩, fun HP13 => ?_⟩
            · clear h9; go_simp; first | done | rfl
            clear HP12
            refine R_pure 13 rfl (by kernel_rfl) HP13 ?_
            apply Exists.intro
            refine ⟨fun _ _ _ h => h, .inl ⟨by kernel_rfl, fun w9 h9 => ?_⟩, fun HP14 => ?_⟩
            · clear h9; go_simp; first | done | rfl
            clear HP13
            refine R_pure 14 rfl (by kernel_rfl) HP14 ?_
            apply Exists.intro
            refine ⟨fun _ _ _ h => h, .inl ⟨by kernel_rfl, fun w9 h9 => ?_⟩, fun HP15 => ?_⟩
            · clear h9; go_simp; first | done | rfl
            clear HP14
            refine R_pure 15 rfl (by kernel_rfl) HP15 ?_
            apply Exists.intro
            refine ⟨fun _ _ _ h => h, .inl ⟨by kernel_rfl, fun w9 h9 => ?_⟩, fun HP16 => ?_⟩
            · clear h9; go_simp; first | done | rfl
            clear HP15
            refine R_pure 16 rfl (by kernel_rfl) HP16 ?_
            apply Exists.intro
            refine ⟨fun _ _ _ h => h, .inl ⟨by kernel_rfl, fun w9 h9 => ?_⟩, fun HP17 => ?_⟩
            · clear h9; go_simp; first | done | rfl
            clear HP16
            refine R_pure 18 rfl (by kernel_rfl) HP17 ?_
            apply Exists.intro
            refine ⟨fun _ _ _ h => h, .inl ⟨by kernel_rfl, fun w9 h9 => ?_⟩, fun HP18 => ?_⟩
            · clear h9; go_simp; first | done | rfl
            clear HP17
            refine R_pure 19 rfl (by kernel_rfl) HP18 ?_
            apply Exists.intro
            refine ⟨fun _ _ _ h => h, .inl ⟨by kernel_rfl, fun w9 h9 => ?_⟩, fun HP19 => ?_⟩
            · clear h9; go_simp; first | done | rfl
            clear HP18
            refine R_pure 20 rfl (by kernel_rfl) HP19 ?_
            apply Exists.intro
            refine ⟨fun _ _ _ h => h, .inl ⟨by kernel_rfl, fun w9 h9 => ?_⟩, fun HP20 => ?_⟩
            · clear h9; go_simp; first | done | rfl
            clear HP19
            refine R_take 21 rfl (by kernel_rfl) HP20 ?_
            apply Exists.intro
            refine ⟨fun _ _ _ h => h, .inl ⟨by kernel_rfl, fun w9 h9 => ?_⟩, fun HP21 => ?_⟩
            · obtain s1 := h9; go_simp; first | done | rfl
            clear HP20
            refine R_all [17] (by kernel_rfl) ?_
            refine AllR.cons (i := 17) rfl (fun K9 HK9 => ?_) ?_
            · go_simp
              refine HAL.out.mono ?_
              rintro e wa ⟨va, rfl, oa, fa, ba⟩
              obtain ⟨Aa, ca, hva, _⟩ := oa.shape
              subst hva
              have BA := Kp.mk (bstep B9.out B9.out.size ba)
              have AQa : Kp (wa.cell? ⟨q, 0, none⟩ = some (.slice Lq nn lc)) := ⟨(ba.cell (World.block_lt_of_cell? _ _ AQ9.out)).trans AQ9.out⟩
              have hbo := bonds_any wa Aa Lq ca lc (sn NN) (oa.src rfl) ((HG7.out.own.src HLQ.out).below BA.out) (by have := NNK.out; omega)
              rw [← NNK.out] at hbo ⊢
              have HBO := Kp.mk hbo
              clear oa fa ba hbo
              go_simp
              refine HK9.out _ _ (.inr AQa.out) (fun HP22 => ?_)
              clear HK9 K9
              refine R_all [22] (by kernel_rfl) ?_
              refine AllR.cons (i := 22) rfl (fun K9 HK9 => ?_) ?_
              · go_simp
                refine HBO.out.mono ?_
                rintro e wb ⟨rfl, bb⟩
                have BB := Kp.mk (bstep BA.out BA.out.size bb)
                have AQb : Kp (wb.cell? ⟨q, 0, none⟩ = some (.slice Lq nn lc)) := ⟨(bb.cell (World.block_lt_of_cell? _ _ AQa.out)).trans AQa.out⟩
                clear bb
                go_simp
                refine HK9.out _ _ (.inr AQb.out) (fun HP23 => ?_)
                clear HK9 K9
                refine R_pure 23 rfl (by kernel_rfl) HP23 ?_
                apply Exists.intro
                refine ⟨fun _ _ _ h => h, .inl ⟨by kernel_rfl, fun w9 h9 => ?_⟩, fun HP24 => ?_⟩
                · clear h9; go_simp; first | done | rfl
                clear HP23
                refine R_pure 24 rfl (by kernel_rfl) HP24 ?_
                apply Exists.intro
                refine ⟨fun _ _ _ h => h, .inl ⟨by kernel_rfl, fun w9 h9 => ?_⟩, fun HP25 => ?_⟩
                · clear h9; go_simp; first | done | rfl
                clear HP24
                refine R_done (by kernel_rfl) ?_
                have PA1 := Kp.mk (P1.out.below BB.out)
                have PA2 := Kp.mk (P2.out.below BB.out)
                have KA := Kp.mk (KPT.out.below BB.out)
                have HBA := Kp.mk (bstep HB7.out HB7.out.size BB.out)
                have bxl : w.heap.size < w5.heap.size := lt_of_block G5.out.box
                clear BA B8 B9 P1 P2 KPT AQ AQ8 AQ9 AQa AQb HD7 HR7 HG7 KG7 RD1 HDE HTE HAL HBO C7
                go_wp2
                go_loopw [14, 81] (fun _ iv wr => ∃ i : Nat, i ≤ md ∧ iv = .int .i64 i ∧ Kp (Chg (FS vs6 i) wb wr)) (fun _ iv _ => md - (intOf iv).toNat)
                case atStart => exact ⟨0, Nat.zero_le _, rfl, ⟨Chg.refl _ _⟩⟩
                case round =>
                  obtain ⟨i, hi, rfl, HC⟩ := hrel
                  by_cases hlt : i < md
                  · obtain ⟨x, hx⟩ : ∃ x, vs6[i]? = some x := ⟨_, List.getElem?_eq_getElem (by rw [VL.out, ← MD.out]; exact hlt)⟩
                    obtain ⟨d, hd⟩ : ∃ d, DD[i]? = some d := ⟨_, List.getElem?_eq_getElem (by rw [← MD.out]; exact hlt)⟩
                    obtain ⟨e1, e2, e3⟩ := PA1.out.tx i x d hx hd
                    have ow := PA1.out.own.frame HC.out (PA1.out.own.off (fs_off PA1.out (by decide) i))
                    obtain ⟨ad, rfl⟩ : ∃ ad, Da = some ad := by
                      cases Da with
                      | none => have h9 := ((ow.src rfl).none rfl).1; rw [h9] at hx; simp at hx
                      | some ad => exact ⟨ad, rfl⟩
                    obtain ⟨g, o, rfl⟩ := (ow.src rfl).addr (by have := (List.getElem?_eq_some_iff.1 hx).1; omega)
                    obtain ⟨y0, y1⟩ := (ow.src rfl).dv i x hx
                    have otx := e3.frame HC.out (ap_fs (ap_left K3.out) hx)
                    obtain ⟨xp, xA, xn, xc⟩ := x
                    unfold tb at otx
                    simp only at e2 y0 y1 otx
                    subst e2
                    have HSPO := Kp.mk (spoil_any wr xA xc d.r otx (by have := (SLK.out.2.2.1 d (List.mem_of_getElem? hd)).2; omega))
                    have HX := Kp.mk hx
                    have k0 : (0 : Int) ≤ (i : Int) := by omega
                    have k1 : (i : Int) < (md : Int) := by omega
                    clear hx hd e1 e3 ow otx
                    go_wp2_with fail
                    refine HSPO.out.mono ?_
                    rintro e w8 ⟨⟨v8, rfl⟩, cc⟩
                    have HC8 := Kp.mk (fs_step HX.out HC.out cc)
                    clear cc
                    go_wp2
                    go_roundw
                    case rel => exact ⟨i + 1, by omega, by go_num, HC8⟩
                    case measure => simp [intOf]; omega
                  · obtain rfl : i = md := by omega
                    have low := fun g hg => fs_low K1.out i g hg
                    have KB := Kp.mk (KA.out.spoil HC.out (fs_off PA1.out (by decide) i) (fs_off PA1.out (by decide) i) (fs_off PA1.out (by decide) i) (fun g hg => (low g hg).1) (fun g hg => (low g hg).2) bxl)
                    have PB2 := Kp.mk (PA2.out.frame HC.out (PA2.out.own.off (fs_off PA1.out (by decide) i)) (fun x hx g hg hF => by
                      obtain ⟨y, hy, h9⟩ := hF
                      exact ap_cross K3.out (List.mem_of_mem_take hy) hx g h9 hg))
                    have HBB := Kp.mk (chg_below HBA.out HC.out (fun g hg => by have h1 := (low g hg).1; have h2 := G5.out.bel.size; omega) HBA.out.size)
                    clear low
                    obtain ⟨wc, hwc⟩ : ∃ wc : World, wc = wr := ⟨_, rfl⟩
                    rw [← hwc] at KB PB2 HBB ⊢
                    clear hwc HC PA1 PA2 KA HBA
                    have box : ∀ w', Kp (Kpt w2.drew w5 w6 (.slice A4 n3 c4) fs ds gl nl cl live gt nt ct traps (.slice Ta mt tc) us6 (.slice Ya mt yc) ys TT w' w.heap.size ob) → w'.cell? ⟨w.heap.size, 1, none⟩ = some (.slice A1 nl c1) ∧ w'.cell? ⟨w.heap.size, 2, none⟩ = some (.slice A2 nt c2) ∧ w'.cell? ⟨w.heap.size, 3, none⟩ = some (.slice A3 n3 c3) := fun w' h => by
                      have hb := h.out.b
                      rw [OB.out] at hb
                      exact ⟨blk_c hb 1, blk_c hb 2, blk_c hb 3⟩
                    have BOX := Kp.mk box
                    clear box
                    have hk := fun w' (h : Kpt w2.drew w5 w6 (.slice A4 n3 c4) fs ds gl nl cl live gt nt ct traps (.slice Ta mt tc) us6 (.slice Ya mt yc) ys TT w' w.heap.size ob) (hb : Below w.heap.size w w') => keptD_any w2.drew w' _ A4 A3 c4 c3 n3 fs vs ds rfl h.f (HM.out.s3.below hb) (HM.out.rd.below hb) (by have := DL.out; omega) (fun d hd => (HM.out.n4 d hd).2)
                    rw [← N.out.2.2.2] at hk
                    have HKE := Kp.mk hk
                    have HK1 := Kp.mk (HKE.out wc KB.out HBB.out)
                    clear hk
                    obtain ⟨x1, x2, x3⟩ := BOX.out wc KB
                    go_wp2_with fail
                    refine HK1.out.mono ?_
                    rintro e wd ⟨rfl, bd⟩
                    have KD := Kp.mk (KB.out.below bd)
                    have PD2 := Kp.mk (PB2.out.below bd)
                    have HBD := Kp.mk (bstep HBB.out HBB.out.size bd)
                    have hst := stays_any wd A1 gl nl cl c1 live KD.out.l (HM.out.s1.below HBD.out) (by have := HS1.out; omega)
                    rw [← N.out.2.1] at hst
                    have HST := Kp.mk hst
                    clear hst bd x1 x2 x3
                    obtain ⟨x1, x2, x3⟩ := BOX.out wd KD
                    go_wp2_with fail
                    refine HST.out.mono ?_
                    rintro e we ⟨rfl, be⟩
                    have KE := Kp.mk (KD.out.below be)
                    have PE2 := Kp.mk (PD2.out.below be)
                    have HBE := Kp.mk (bstep HBD.out HBD.out.size be)
                    have hst := stays_any we A2 gt nt ct c2 traps KE.out.t (HM.out.s2.below HBE.out) (by have := HS2.out; omega)
                    rw [← N.out.2.2.1] at hst
                    have HST2 := Kp.mk hst
                    clear hst be x1 x2 x3
                    obtain ⟨x1, x2, x3⟩ := BOX.out we KE
                    go_wp2_with fail
                    refine HST2.out.mono ?_
                    rintro e wf ⟨rfl, bf⟩
                    have KF := Kp.mk (KE.out.below bf)
                    have PF2 := Kp.mk (PE2.out.below bf)
                    have HBF := Kp.mk (bstep HBE.out HBE.out.size bf)
                    have hte := tells_any wf Ta Ya tc yc us6 ys TT (PF2.out.own.src rfl) (KF.out.y.own.src rfl) ⟨PF2.out.len, fun i x d hx hd => ⟨(PF2.out.tx i x d hx hd).1, (PF2.out.tx i x d hx hd).2.1, (PF2.out.tx i x d hx hd).2.2.src rfl⟩⟩ KF.out.y.rd (by have := MT.out; omega) TXL.out
                    rw [UL.out, ← MT.out, YL.out] at hte
                    have HTE2 := Kp.mk hte
                    clear hte bf x1 x2 x3
                    go_wp2_with fail
                    refine HTE2.out.mono ?_
                    rintro e wg ⟨rfl, bg⟩
                    have KG9 := Kp.mk (KF.out.below bg)
                    have PG2 := Kp.mk (PF2.out.below bg)
                    have HBG9 := Kp.mk (bstep HBF.out HBF.out.size bg)
                    clear bg
                    go_wp2
                    go_loopw [15, 118] (fun _ iv wr => ∃ i : Nat, i ≤ mt ∧ iv = .int .i64 i ∧ Kp (Chg (FS us6 i) wg wr)) (fun _ iv _ => mt - (intOf iv).toNat)
                    case atStart => exact ⟨0, Nat.zero_le _, rfl, ⟨Chg.refl _ _⟩⟩
                    case round =>
                      obtain ⟨j, hj, rfl, HC⟩ := hrel
                      by_cases hjt : j < mt
                      · obtain ⟨x, hx⟩ : ∃ x, us6[j]? = some x := ⟨_, List.getElem?_eq_getElem (by rw [UL.out, ← MT.out]; exact hjt)⟩
                        obtain ⟨d, hd⟩ : ∃ d, TT[j]? = some d := ⟨_, List.getElem?_eq_getElem (by rw [← MT.out]; exact hjt)⟩
                        obtain ⟨e1, e2, e3⟩ := PG2.out.tx j x d hx hd
                        have ow := PG2.out.own.frame HC.out (PG2.out.own.off (fs_off PG2.out (by decide) j))
                        obtain ⟨ad, rfl⟩ : ∃ ad, Ta = some ad := by
                          cases Ta with
                          | none => have h9 := ((ow.src rfl).none rfl).1; rw [h9] at hx; simp at hx
                          | some ad => exact ⟨ad, rfl⟩
                        obtain ⟨g, o, rfl⟩ := (ow.src rfl).addr (by have := (List.getElem?_eq_some_iff.1 hx).1; omega)
                        obtain ⟨y0, y1⟩ := (ow.src rfl).dv j x hx
                        have otx := e3.frame HC.out (ap_fs (ap_right K3.out) hx)
                        obtain ⟨xp, xA, xn, xc⟩ := x
                        unfold tb at otx
                        simp only at e2 y0 y1 otx
                        subst e2
                        have HSPO := Kp.mk (spoil_any wr xA xc d.r otx (by have := SLK.out.2.2.2 d (List.mem_of_getElem? hd); omega))
                        have HX := Kp.mk hx
                        have k0 : (0 : Int) ≤ (j : Int) := by omega
                        have k1 : (j : Int) < (mt : Int) := by omega
                        clear hx hd e1 e3 ow otx
                        go_wp2_with fail
                        refine HSPO.out.mono ?_
                        rintro e w8 ⟨⟨v8, rfl⟩, cc⟩
                        have HC8 := Kp.mk (fs_step HX.out HC.out cc)
                        clear cc
                        go_wp2
                        go_roundw
                        case rel => exact ⟨j + 1, by omega, by go_num, HC8⟩
                        case measure => simp [intOf]; omega
                      · obtain rfl : j = mt := by omega
                        have low := fun g hg => fs_low K2.out j g hg
                        have KH := Kp.mk (KG9.out.spoil HC.out (fs_off PG2.out (by decide) j) (fs_off PG2.out (by decide) j) (fs_off PG2.out (by decide) j) (fun g hg => (low g hg).1) (fun g hg => (low g hg).2) bxl)
                        have HBH := Kp.mk (chg_below HBG9.out HC.out (fun g hg => by have h1 := (low g hg).1; have h2 := G5.out.bel.size; omega) HBG9.out.size)
                        have HK2 := Kp.mk (HKE.out wr KH.out HBH.out)
                        obtain ⟨x1, x2, x3⟩ := BOX.out wr KH
                        clear low
                        obtain ⟨wz, rfl⟩ : ∃ wz : World, wz = wr := ⟨_, rfl⟩
                        go_wp2_with fail
                        refine HK2.out.mono ?_
                        rintro e wi ⟨rfl, bi⟩
                        have HBI := Kp.mk (bstep HBH.out HBH.out.size bi)
                        have HAW := Kp.mk (awake_any wi (HT.out.below HBI.out))
                        clear bi x1 x2 x3
                        go_wp2_with (go_at_call 16; refine HAW.out.mono ?_; rintro e wy ⟨rfl, by_⟩; have BY := Kp.mk (bstep HBI.out HBI.out.size by_); clear by_)
                        go_ret
                        exact ⟨rfl, BY.out⟩
              exact AllR.nil
            exact AllR.nil
          exact AllR.nil
        exact AllR.nil
      exact AllR.nil
    exact AllR.nil
  exact AllR.nil
end Go.Proofs.YtameidoaenoppaaGreatDoor
