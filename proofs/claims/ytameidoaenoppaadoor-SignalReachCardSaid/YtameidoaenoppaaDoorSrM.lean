/- Plain: where nobody else ends; rows of deaths whose texts lie in rows of cells; no condition. SignalTraps walked: it answers true; bounds stand in the statement. SignalLeft walked: it answers true; bounds stand in the statement. SignalOnce walked: it answers true; bounds stand in the statement. Whom a process is linked with: the document's Of, set and Peers of package links; bounds stand in each statement. Plain: whom an end reaches over links, over those that live and do not trap; no program in sight, no condition. reached of package signal's law walked; bounds stand in the statement. SignalReach walked: it answers true; bounds stand in the statement. -/
import Derived.Test.YtameidoaenoppaaDoorMd
import Derived.Test.YtameidoaenoppaaDoorAw
import Derived.Test.YtameidoaenoppaaDoorAl

namespace Go.Proofs.YtameidoaenoppaaDoor
open Go.RowKit

section
variable {live traps : List Int} {d : Dth} {s : SS} {b : Bd}
theorem alive_live {ds : List Dth} {q : Int} (h : aliveB live ds q = true) : q ∈ live := by
  unfold aliveB at h
  rw [Bool.and_eq_true] at h
  exact of_decide_eq_true h.1
theorem bond1_keep (h : isA d.r normalS = true ∨ ∀ q ∈ live, q ∈ traps) : (bond1 live traps d s b).ds = s.ds := by
  unfold bond1
  split
  · rfl
  · rename_i ha
    split
    · rfl
    · split
      · rfl
      · rename_i ht
        split
        · rfl
        · rename_i hn
          rcases h with h | h
          · exact absurd h hn
          · exact absurd (h _ (alive_live (by simpa using ha))) ht
theorem fold_keep (h : isA d.r normalS = true ∨ ∀ q ∈ live, q ∈ traps) : ∀ (l : List Bd) (s : SS), (l.foldl (bond1 live traps d) s).ds = s.ds
  | [], _ => rfl
  | b :: l, s => (fold_keep h l (bond1 live traps d s b)).trans (bond1_keep h)
theorem rnds_keep {ds : List Dth} (ns : List NB) (h : (∀ d ∈ ds, isA d.r normalS = true) ∨ ∀ q ∈ live, q ∈ traps) : ∀ i, (rnds live traps i (⟨ds, []⟩, ns)).1.ds = ds
  | 0 => rfl
  | i + 1 => by
    have ih := rnds_keep ns h i
    show (rnd live traps i (rnds live traps i (⟨ds, []⟩, ns))).1.ds = ds
    unfold rnd
    split
    · exact ih
    · rename_i d hd
      rw [ih] at hd
      exact (fold_keep (h.imp (fun h => h d (List.mem_of_getElem? hd)) (fun h => h)) _ _).trans ih
theorem sprd_keep {ds : List Dth} {ns : List NB} (h : (∀ d ∈ ds, isA d.r normalS = true) ∨ ∀ q ∈ live, q ∈ traps) : (sprd live traps ds ns).1.ds = ds := rnds_keep ns h _
end
theorem Src.blk {α : Type} {E : El α} {w w' : World} {g o c : Nat} {l : List α} (h : Src w E (some ⟨g, o, Option.none⟩) c l) (hb : w'.heap[g]? = w.heap[g]?) : Src w' E (some ⟨g, o, Option.none⟩) c l :=
  ⟨fun ad ha j u hu => by
    cases ha
    have h1 := h.cell _ rfl j u hu
    rw [Addr.add_lit] at h1 ⊢
    unfold World.cell? at h1 ⊢
    simp only at h1 ⊢
    rw [hb]
    exact h1, h.none⟩
/-- A text in a row of cells. -/
structure TxK (w : World) (x : Dv) (r : List Ce) : Prop where
  n : x.n = r.length
  src : Src w eCe x.A x.c r
  at_ : ∃ g cur, x.A = some ⟨g, 0, none⟩ ∧ w.heap[g]? = some (.cells cur 64 (0, 0))
theorem TxK.frame {w w' : World} {x : Dv} {r : List Ce} {F : Nat → Prop} (h : TxK w x r) (hc : Chg F w w') (hF : Off w F 64) : TxK w' x r := by
  obtain ⟨g, cur, h1, h2⟩ := h.at_
  have hb : w'.heap[g]? = w.heap[g]? := hc.block g (lt_of_block h2) (fun hf => hF g cur hf h2)
  refine ⟨h.n, ?_, g, cur, h1, hb.trans h2⟩
  have := h.src
  rw [h1] at this ⊢
  exact this.blk hb
theorem TxK.below {w w' : World} {x : Dv} {r : List Ce} (h : TxK w x r) (hb : Below w.heap.size w w') : TxK w' x r := h.frame (Chg.of_below hb NoF) (fun _ _ h => h.elim)
/-- A row of deaths of one's own, whose texts lie in rows of cells. -/
structure FirM (w0 w : World) (v : Value) (us : List Dv) (ds : List Dth) : Prop where
  own : Own w 48 eDv v us
  len : us.length = ds.length
  tx : ∀ (i : Nat) x d, us[i]? = some x → ds[i]? = some d → x.p = d.p ∧ TxK w x d.r
  fr : Fresh w0 v
section
variable {w0 w w' : World} {v : Value} {us : List Dv} {ds : List Dth}
theorem FirM.rd (h : FirM w0 w v us ds) : RdD w us ds := ⟨h.len, fun i x d hx hd => ⟨(h.tx i x d hx hd).1, (h.tx i x d hx hd).2.n, (h.tx i x d hx hd).2.src⟩⟩
theorem FirM.frame {F : Nat → Prop} (h : FirM w0 w v us ds) (hc : Chg F w w') (h1 : Off w F 48) (h2 : Off w F 64) : FirM w0 w' v us ds :=
  ⟨h.own.frame hc (h.own.off h1), h.len, fun i x d hx hd => ⟨(h.tx i x d hx hd).1, (h.tx i x d hx hd).2.frame hc h2⟩, h.fr⟩
theorem FirM.below (h : FirM w0 w v us ds) (hb : Below w.heap.size w w') : FirM w0 w' v us ds := h.frame (Chg.of_below hb NoF) (fun _ _ h => h.elim) (fun _ _ h => h.elim)
theorem CopM.fir (h : CopM w0 w v us ds) : FirM w0 w v us ds := ⟨h.own, h.len, fun i x d hx hd => by
  obtain ⟨h1, g, h2, h3, _⟩ := h.tx i x d hx hd
  obtain ⟨cur, hcur⟩ := h3.own.blk
  exact ⟨h1, h3.hn, by rw [h2]; exact h3.src, g, cur, h2, hcur⟩, h.fr⟩
/-- Another reason in a place of the row. -/
theorem FirM.put {w1 : World} {g n c : Nat} {k : Nat} {x : Dv} {d : Dth} {r : List Ce} {A : Option Addr} {c1 m : Nat} (h : FirM w0 w (.slice (some ⟨g, 0, none⟩) n c) us ds) (hb : Below w.heap.size w w1) (hn : n = us.length) (hx : us[k]? = some x) (hd : ds[k]? = some d) (ht : TxK w1 ⟨x.p, A, m, c1⟩ r) :
    FirM w0 (w1.setCell ⟨g, k * 2 + 1, none⟩ (.slice A m c1)) (.slice (some ⟨g, 0, none⟩) n c) (us.set k ⟨x.p, A, m, c1⟩) (ds.set k ⟨d.p, r⟩) := by
  have h1 := h.below hb
  obtain ⟨hk, rfl⟩ := List.getElem?_eq_some_iff.1 hx
  obtain ⟨hkd, rfl⟩ := List.getElem?_eq_some_iff.1 hd
  have hc := chg_cell w1 g (k * 2 + 1) (.slice A m c1)
  have off : Off w1 (fun k => k = g) 64 := fun g' cur hg' hcur => by
    obtain ⟨cur', h9⟩ := h1.own.blk
    rw [hg', h9] at hcur; cases hcur
  refine ⟨h1.own.set hn k 1 _ _ hk (by decide) (by simp [eDv]), by rw [List.length_set, List.length_set]; exact h.len, fun i y e hy he => ?_, h.fr⟩
  rw [List.getElem?_set] at hy he
  by_cases hki : k = i
  · subst hki
    rw [if_pos rfl, if_pos hk] at hy
    rw [if_pos rfl, if_pos hkd] at he
    cases hy; cases he
    exact ⟨(h.tx k _ _ hx hd).1, ht.frame hc off⟩
  · rw [if_neg hki] at hy he
    exact ⟨(h1.tx i y e hy he).1, (h1.tx i y e hy he).2.frame hc off⟩
theorem OwnT.fir {vs : List Dv} (h : OwnT w0 w 48 v vs ds) (h1 : ∀ d ∈ ds, 1 ≤ d.r.length) : FirM w0 w v vs ds := ⟨h.own, h.len, fun i x d hx hd => by
  obtain ⟨k1, k2, k3⟩ := h.tx i x d hx hd
  refine ⟨k1, k2, k3.src rfl, ?_⟩
  obtain ⟨A, c, hv, _, _, h5, h6⟩ := k3.shape
  unfold tb at hv k3
  rw [k2] at hv
  cases hv
  cases hA : x.A with
  | none => have := (h5 hA).1; have := h1 d (List.mem_of_getElem? hd); rw [(h5 hA).1] at this; simp at this
  | some a =>
    obtain ⟨g, rfl⟩ := h6 a hA
    rw [hA] at k3
    obtain ⟨cur, hcur⟩ := k3.blk
    exact ⟨g, cur, rfl, hcur⟩, h.fr⟩
end
theorem offG {w : World} {p bm lm rm : Nat} {ns : List NB} {last : Int} (h : IsG w p bm lm rm ns last) {T : TypeId} (hT : T ≠ 94) : Off w (FG p bm lm rm) T := fun g cur hF hg => by
  rcases hF with rfl | rfl | rfl | rfl
  · rw [h.g.blk] at hg; cases hg; exact hT rfl
  · obtain ⟨a, c, hb⟩ := h.g.mb.blk; rw [hb] at hg; cases hg
  · obtain ⟨a, c, hb⟩ := h.g.ml.blk; rw [hb] at hg; cases hg
  · obtain ⟨a, c, hb⟩ := h.g.mr.blk; rw [hb] at hg; cases hg
end Go.Proofs.YtameidoaenoppaaDoor

namespace Go.Proofs.YtameidoaenoppaaDoor
open Go.RowKit

/-- What holds behind the making of a case's graphs. -/
structure Beg (w w2 : World) (A0 : Option Addr) (c0 : Nat) (ops : List OpM) (A1 : Option Addr) (c1 : Nat) (live : List Int) (A2 : Option Addr) (c2 : Nat) (traps : List Int) (A3 : Option Addr) (c3 : Nat) (vs : List Dv) (ds : List Dth)
    (p bm lm rm q : Nat) (lv : Value) (ns : List NB) (last : Int) : Prop where
  cm : CaseM w2 A0 c0 ops A1 c1 live A2 c2 traps A3 c3 vs ds
  g : IsG w2 p bm lm rm ns last
  d : IsD w2 q lv (sn ns)
  fg : ∀ k, FG p bm lm rm k → w.heap.size < k
  fd : ∀ k, FD q lv k → w.heap.size < k
  bel : Below w.heap.size w w2
  box : w2.heap[w.heap.size]? = some (.cells #[.slice A0 ops.length c0, .slice A1 live.length c1, .slice A2 traps.length c2, .slice A3 vs.length c3] 38 (0, 0))
  last : last ≤ 900000000000000000
theorem made_beg {w : World} {A0 : Option Addr} {c0 : Nat} {ops : List OpM} {A1 : Option Addr} {c1 : Nat} {live : List Int} {A2 : Option Addr} {c2 : Nat} {traps : List Int} {A3 : Option Addr} {c3 : Nat} {vs : List Dv} {ds : List Dth} (h : CaseM w A0 c0 ops A1 c1 live A2 c2 traps A3 c3 vs ds) :
    Calls Tryd.prog 21 #[.slice A0 ops.length c0] (w.alloc (.cells #[.slice A0 ops.length c0, .slice A1 live.length c1, .slice A2 traps.length c2, .slice A3 vs.length c3] 38)) fun e w2 =>
      ∃ p bm lm rm q lv ns last, e = .returned (.tuple #[.pointer (some ⟨p, 0, none⟩), .pointer (some ⟨q, 0, none⟩)]) ∧ Beg w w2 A0 c0 ops A1 c1 live A2 c2 traps A3 c3 vs ds p bm lm rm q lv ns last := by
  have hb : Below w.heap.size w (w.alloc (.cells #[.slice A0 ops.length c0, .slice A1 live.length c1, .slice A2 traps.length c2, .slice A3 vs.length c3] 38)) := (Below.refl _ _).alloc (Nat.le_refl _) _
  have h1 := h.below hb
  refine (made_any _ ops A0 c0 h1.s0 (by have := h.n0; omega)).mono ?_
  rintro e w2 ⟨p, bm, lm, rm, q, lv, ns, last, rfl, hT, hl⟩
  have hbe := hT.bel
  refine ⟨p, bm, lm, rm, q, lv, ns, last, rfl, h1.below hbe, hT.g, hT.d, fun k hk => ?_, fun k hk => ?_, bstep hb hb.size hbe, (Chg.of_below hbe NoF).at (blk_new w _) (fun h => h), ?_⟩
  · have := hT.fg k hk; simp at this; omega
  · have := hT.fd k hk; simp at this; omega
  · have := h.n0; omega
section
variable {w w2 w3 : World} {A0 : Option Addr} {c0 : Nat} {ops : List OpM} {A1 : Option Addr} {c1 : Nat} {live : List Int} {A2 : Option Addr} {c2 : Nat} {traps : List Int} {A3 : Option Addr} {c3 : Nat} {vs : List Dv} {ds : List Dth} {p bm lm rm q : Nat} {lv : Value} {ns : List NB} {last : Int}
theorem Beg.below (h : Beg w w2 A0 c0 ops A1 c1 live A2 c2 traps A3 c3 vs ds p bm lm rm q lv ns last) (hb : Below w2.heap.size w2 w3) : Beg w w3 A0 c0 ops A1 c1 live A2 c2 traps A3 c3 vs ds p bm lm rm q lv ns last :=
  ⟨h.cm.below hb, h.g.below hb, h.d.below hb, h.fg, h.fd, bstep h.bel h.bel.size hb, (Chg.of_below hb NoF).at h.box (fun h => h), h.last⟩
/-- What turns no block of the case's, of its graphs or below. -/
theorem Beg.frame {F : Nat → Prop} (h : Beg w w2 A0 c0 ops A1 c1 live A2 c2 traps A3 c3 vs ds p bm lm rm q lv ns last) (h0 : CaseM w A0 c0 ops A1 c1 live A2 c2 traps A3 c3 vs ds) (hc : Chg F w2 w3) (hF : ∀ g, F g → w.heap.size < g) (hg : ∀ g, FG p bm lm rm g → ¬ F g) (hd : ∀ g, FD q lv g → ¬ F g) :
    Beg w w3 A0 c0 ops A1 c1 live A2 c2 traps A3 c3 vs ds p bm lm rm q lv ns last := by
  have hb : Below w.heap.size w w3 := chg_below h.bel hc (fun g hg => Nat.le_of_lt (hF g hg)) h.bel.size
  exact ⟨h0.below hb, ⟨h.g.g.frame hc hg, h.g.ok⟩, h.d.frame hc hd, h.fg, h.fd, hb, hc.at h.box (fun hf => by have := hF _ hf; omega), h.last⟩
/-- What an end of bonds leaves. -/
theorem Beg.spread (h : Beg w w2 A0 c0 ops A1 c1 live A2 c2 traps A3 c3 vs ds p bm lm rm q lv ns last) (h0 : CaseM w A0 c0 ops A1 c1 live A2 c2 traps A3 c3 vs ds) (hc : Chg (FG p bm lm rm) w2 w3) :
    Below w.heap.size w w3 ∧ CaseM w3 A0 c0 ops A1 c1 live A2 c2 traps A3 c3 vs ds ∧ IsD w3 q lv (sn ns) ∧ w3.heap[w.heap.size]? = some (.cells #[.slice A0 ops.length c0, .slice A1 live.length c1, .slice A2 traps.length c2, .slice A3 vs.length c3] 38 (0, 0)) := by
  have hb : Below w.heap.size w w3 := chg_below h.bel hc (fun g hg => Nat.le_of_lt (h.fg g hg)) h.bel.size
  exact ⟨hb, h0.below hb, h.d.frame hc (fun g h1 h2 => apart h.g h.d g h2 h1), hc.at h.box (fun hf => by have := h.fg _ hf; omega)⟩
end
def normR : List Ce := [atomC normalS]
def normDs (ds : List Dth) : List Dth := ds.map (fun d => ⟨d.p, normR⟩)
theorem take_put {ds : List Dth} {k : Nat} {d : Dth} (hd : ds[k]? = some d) : ((normDs (ds.take k)) ++ ds.drop k).set k ⟨d.p, normR⟩ = normDs (ds.take (k + 1)) ++ ds.drop (k + 1) := by
  obtain ⟨hk, rfl⟩ := List.getElem?_eq_some_iff.1 hd
  have hl : (normDs (ds.take k)).length = k := by unfold normDs; rw [List.length_map, List.length_take]; omega
  rw [List.set_append_right _ _ (by omega), hl, Nat.sub_self, List.drop_eq_getElem_cons hk, List.set_cons_zero, List.take_succ_eq_append_getElem hk]
  unfold normDs
  rw [List.map_append, List.append_assoc]
  rfl
theorem at_put {ds : List Dth} {k : Nat} {d : Dth} (hd : ds[k]? = some d) : ((normDs (ds.take k)) ++ ds.drop k)[k]? = some d := by
  obtain ⟨hk, rfl⟩ := List.getElem?_eq_some_iff.1 hd
  have hl : (normDs (ds.take k)).length = k := by unfold normDs; rw [List.length_map, List.length_take]; omega
  rw [List.getElem?_append_right (by omega), hl, Nat.sub_self, List.getElem?_drop]
  exact hd
set_option maxRecDepth 100000 in
set_option maxHeartbeats 16000000 in
theorem signalTraps_any (w : World) (A0 : Option Addr) (c0 : Nat) (ops : List OpM) (A1 : Option Addr) (c1 : Nat) (live : List Int) (A2 : Option Addr) (c2 : Nat) (traps : List Int) (A3 : Option Addr) (c3 : Nat) (vs : List Dv) (ds : List Dth) (normal : Bool)
    (hm : CaseM w A0 c0 ops A1 c1 live A2 c2 traps A3 c3 vs ds) (hT : Tabs w) :
    Calls Tryd.prog 6 #[caseV A0 c0 ops.length A1 c1 live.length A2 c2 traps.length A3 c3 vs.length, .bool normal] w fun e w' => e = .returned (.bool true) ∧ Below w.heap.size w w' := by
  have HM := Kp.mk hm
  have HT := Kp.mk hT
  have HMB := Kp.mk (made_beg hm)
  clear hm hT
  obtain ⟨n0, h0⟩ : ∃ n, n = ops.length := ⟨_, rfl⟩
  obtain ⟨n1, h1⟩ : ∃ n, n = live.length := ⟨_, rfl⟩
  obtain ⟨n2, h2⟩ : ∃ n, n = traps.length := ⟨_, rfl⟩
  obtain ⟨n3, h3⟩ : ∃ n, n = vs.length := ⟨_, rfl⟩
  have N := Kp.mk (And.intro h0 (And.intro h1 (And.intro h2 h3)))
  unfold caseV
  rw [← h0, ← h1, ← h2, ← h3] at HMB ⊢
  clear h0 h1 h2 h3
  have hn3 : n3 ≤ 4398046511000 := by have := HM.out.n3; have := N.out.2.2.2; omega
  go_enter Tryd.func6, Tryd.ntmps6
  go_wp2_with fail
  refine HMB.out.mono ?_
  rintro e w2 ⟨p, bm, lm, rm, q, lv, ns, last, rfl, hbg⟩
  have HBG := Kp.mk hbg
  have bx := hbg.box
  rw [← N.out.1, ← N.out.2.1, ← N.out.2.2.1, ← N.out.2.2.2] at bx
  have b1 := blk_c bx 1
  have b2 := blk_c bx 2
  have b3 := blk_c bx 3
  have HCO := Kp.mk (copied_any w2 A3 c3 vs ds hbg.cm.s3 hbg.cm.rd hbg.cm.n3 hbg.cm.n4)
  rw [← N.out.2.2.2] at HCO
  clear hbg bx
  go_wp2_with fail
  refine HCO.out.mono ?_
  rintro e w3 ⟨v3, us, rfl, k3, bb3⟩
  obtain ⟨A4, c4, hv, hc4, _, _, _⟩ := k3.own.shape
  subst hv
  have LU : Kp (us.length = ds.length) := ⟨k3.len⟩
  have LD : Kp (ds.length = n3) := ⟨by rw [N.out.2.2.2]; exact HM.out.rd.len.symm⟩
  rw [k3.len, LD.out] at k3 hc4 ⊢
  have HF := Kp.mk k3.fir
  have HB3 := Kp.mk (HBG.out.below bb3)
  have HSZ := Kp.mk (HBG.out.bel.size)
  have bx := (HBG.out.below bb3).box
  rw [← N.out.1, ← N.out.2.1, ← N.out.2.2.1, ← N.out.2.2.2] at bx
  have BX := Kp.mk bx
  have b1 := blk_c bx 1
  have b2 := blk_c bx 2
  clear k3 bb3 bx b3
  -- what follows, whichever reasons
  have tail : ∀ (w5 : World) (us' : List Dv) (ds' : List Dth) (T' : Option Addr) (ct nt : Nat) (tr : List Int), FirM w2 w5 (.slice A4 n3 c4) us' ds' → Beg w w5 A0 c0 ops A1 c1 live A2 c2 traps A3 c3 vs ds p bm lm rm q lv ns last →
      ds'.length = n3 → nt = tr.length → Src w5 eI64 T' ct tr → tr.length ≤ 18000000000000 → (∀ d ∈ ds', d.r.length ≤ 9000000000000) → ((∀ d ∈ ds', isA d.r normalS = true) ∨ ∀ q ∈ live, q ∈ tr) →
      Kp (Calls Tryd.prog 20 #[.pointer (some ⟨p, 0, none⟩), .slice A1 n1 c1, .slice T' nt ct, .slice A4 n3 c4] w5 fun e w6 => Below w.heap.size w w6 ∧ ((∃ er : Int, er ≠ 0 ∧ e = .returned (.tuple #[.slice none 0 0, .slice none 0 0, .int .i64 er])) ∨
        (∃ D cd S, e = .returned (.tuple #[.slice D n3 cd, S, .int .i64 0]) ∧ Calls Tryd.prog 27 #[.slice D n3 cd, .slice A4 n3 c4] w6 fun e w' => e = .returned (.bool true) ∧ Below w6.heap.size w6 w'))) := by
    intro w5 us' ds' T' ct nt tr hf hbe hl hnt hst htl hdl hcond
    have hul : us'.length = n3 := hf.len.trans hl
    have hcc : us'.length ≤ c4 := by rw [hul]; exact hc4
    have h9 := spread_all w5 p bm lm rm ns last A1 T' A4 c1 ct c4 live tr us' ds' hbe.g (by have := hbe.last; omega) hbe.cm.s1 hst (hf.own.src rfl) hf.rd (fun w' hc => HT.out.below (chg_below hbe.bel hc (fun g hg => Nat.le_of_lt (hbe.fg g hg)) hbe.bel.size))
      (by have := HM.out.n1; omega) htl (by have := HM.out.n3; have := N.out.2.2.2; omega) hcc hdl
    rw [hul, ← N.out.2.1, ← hnt] at h9
    refine ⟨h9.mono ?_⟩
    rintro e w6 (⟨hw, dv, sv, vs9, us9, rfl, k1, k2, k3, k4, k5⟩ | ⟨hw, rfl, hb⟩)
    · rw [sprd_keep hcond] at k1
      have hbel : Below w.heap.size w w6 := chg_below hbe.bel k5 (fun g hg => Nat.le_of_lt (hbe.fg g hg)) hbe.bel.size
      refine ⟨hbel, .inr ?_⟩
      obtain ⟨D, cd, hv, _⟩ := k1.own.shape
      subst hv
      have hlv : vs9.length = n3 := k1.len.trans hl
      rw [hlv] at k1 ⊢
      have hf6 := hf.frame k5 (offG hbe.g (by decide)) (offG hbe.g (by decide))
      have hrd : RdD w6 vs9 ds' := ⟨k1.len, fun i x d hx hd => ⟨(k1.tx i x d hx hd).1, (k1.tx i x d hx hd).2.1, (k1.tx i x d hx hd).2.2.src rfl⟩⟩
      have h8 := deaths_any w6 D A4 cd c4 vs9 us' ds' (k1.own.src rfl) (hf6.own.src rfl) hrd hf6.rd (by rw [hl]; have := HM.out.n3; have := N.out.2.2.2; omega) hdl
      rw [hlv, hul] at h8
      exact ⟨D, cd, sv, rfl, h8⟩
    · exact ⟨bstep hbe.bel hbe.bel.size hb, .inl ⟨_, hw, rfl⟩⟩
  have TAIL := Kp.mk tail
  clear tail
  cases normal
  · have TT := TAIL.out w3 us ds A1 c1 n1 live HF.out HB3.out LD.out N.out.2.1 HB3.out.cm.s1 (by have := HM.out.n1; omega) (fun d hd => by have := (HM.out.n4 d hd).2; omega) (.inr fun q h => h)
    go_wp2_with fail
    refine TT.out.mono ?_
    rintro e w6 ⟨b6, ⟨er, her, rfl⟩ | ⟨D, cd, S, rfl, hde⟩⟩
    · have HAW := Kp.mk (awake_any w6 (HT.out.below b6))
      have heb : (er != 0) = true := by simpa using her
      have B6 := Kp.mk b6
      clear her b6
      go_wp2_with (go_at_call 19; refine HAW.out.mono ?_; rintro e w7 ⟨rfl, b7⟩; have B7 := Kp.mk b7; clear b7)
      go_ret
      exact ⟨rfl, bstep B6.out B6.out.size B7.out⟩
    · have HDE := Kp.mk hde
      have B6 := Kp.mk b6
      clear hde b6
      go_wp2_with fail
      refine HDE.out.mono ?_
      rintro e w7 ⟨rfl, b7⟩
      have HAW := Kp.mk (awake_any w7 (HT.out.below (bstep B6.out B6.out.size b7)))
      have B7 := Kp.mk (bstep B6.out B6.out.size b7)
      clear b7
      go_wp2_with (go_at_call 19; refine HAW.out.mono ?_; rintro e w8 ⟨rfl, b8⟩; have B8 := Kp.mk b8; clear b8)
      go_ret
      exact ⟨rfl, bstep B7.out B7.out.size B8.out⟩
  · go_wp2
    go_loopw [9, 31] (fun _ i wr => ∃ (k : Nat) (us' : List Dv), k ≤ n3 ∧ i = .int .i64 k ∧ Kp (FirM w2 wr (.slice A4 n3 c4) us' (normDs (ds.take k) ++ ds.drop k)) ∧ Kp (Beg w wr A0 c0 ops A1 c1 live A2 c2 traps A3 c3 vs ds p bm lm rm q lv ns last)) (fun _ i _ => n3 - (intOf i).toNat)
    case atStart => exact ⟨0, us, Nat.zero_le _, rfl, HF, HB3⟩
    case round =>
      clear b1 b2
      obtain ⟨k, us', hk, rfl, F1, G1⟩ := hrel
      by_cases hlt : k < n3
      · have hul : us'.length = n3 := by
          rw [F1.out.len, List.length_append]
          unfold normDs
          rw [List.length_map, List.length_take, List.length_drop]
          have := LD.out
          omega
        obtain ⟨x, hx⟩ : ∃ x, us'[k]? = some x := ⟨_, List.getElem?_eq_getElem (by omega)⟩
        obtain ⟨d, hd⟩ : ∃ d, ds[k]? = some d := ⟨_, List.getElem?_eq_getElem (by have := LD.out; omega)⟩
        have hd2 := at_put hd
        obtain ⟨A', c', hv, h4, h5, h6, h7⟩ := F1.out.own.shape
        rw [hul] at hv
        cases hv
        obtain ⟨g, rfl⟩ : ∃ g, A4 = some ⟨g, 0, none⟩ := by
          cases A4 with
          | none => have h8 := (h6 rfl).1; rw [h8] at hul; simp at hul; omega
          | some a => obtain ⟨g, rfl⟩ := h7 a rfl; exact ⟨g, rfl⟩
        obtain ⟨a0, a1⟩ := (F1.out.own.src rfl).dv k x hx
        rw [Nat.zero_add] at a1
        have fz := F1.out.own.frozen (k * 2 + 1)
        have HX := Kp.mk hx
        have HD := Kp.mk hd
        have HD2 := Kp.mk hd2
        have HUL := Kp.mk hul
        have a1' : ∀ w', Below wr.heap.size wr w' → w'.cell? ⟨g, k * 2 + 1, none⟩ = some (.slice x.A x.n x.c) ∧ w'.frozen? ⟨g, k * 2 + 1, none⟩ = false := fun w' hb => ⟨(hb.cell (World.block_lt_of_cell? _ _ a1)).trans a1, (F1.out.below hb).own.frozen _⟩
        have A1' := Kp.mk a1'
        have k0 : (0 : Int) ≤ (k : Int) := by omega
        have k1 : (k : Int) < (n3 : Int) := by omega
        clear hx hd hd2 a0 a1 a1' h4 h5 h6 h7 fz hul
        go_wp2_with (go_at_call 26; refine (atomL_any _ normalS).mono ?_; rintro e w5 ⟨v5, rfl, o5, f5, b5⟩; obtain ⟨A5, c5, hv5, _, _, h50, h51⟩ := o5.shape; subst hv5; have hl5 : [atomC normalS].length = 1 := rfl; rw [hl5] at o5 f5 ⊢; obtain ⟨q0, q1⟩ := A1'.out _ b5; have O5 := Kp.mk o5; have F5 := Kp.mk f5; have B5 := Kp.mk b5; have H50 := Kp.mk h50; have H51 := Kp.mk h51; clear o5 f5 b5 h50 h51 hl5)
        go_roundw
        case rel =>
          refine ⟨k + 1, us'.set k ⟨x.p, A5, 1, c5⟩, by omega, by go_num, ⟨?_⟩, ⟨?_⟩⟩
          · rw [← take_put HD.out]
            refine F1.out.put B5.out HUL.out.symm HX.out HD2.out ⟨rfl, O5.out.src rfl, ?_⟩
            cases hA : A5 with
            | none => have := (H50.out hA).1; cases this
            | some a =>
              obtain ⟨g5, rfl⟩ := H51.out a hA
              have h9 := O5.out
              rw [hA] at h9
              obtain ⟨cur, hcur⟩ := h9.blk
              exact ⟨g5, cur, rfl, hcur⟩
          · have hgw := F1.out.fr g rfl
            refine (G1.out.below B5.out).frame HM.out (chg_cell w5 g (k * 2 + 1) _) (fun g' hg' => ?_) (fun g' hf hg' => ?_) (fun g' hf hg' => ?_)
            · subst hg'
              have h1 := lt_of_block HBG.out.box
              omega
            · subst hg'
              obtain ⟨cur, hcur⟩ := (F1.out.below B5.out).own.blk
              exact offG (G1.out.below B5.out).g (by decide) _ cur hf hcur
            · subst hg'
              obtain ⟨cur, hcur⟩ := (F1.out.below B5.out).own.blk
              have hd5 := (G1.out.below B5.out).d
              rcases hf with rfl | hf
              · rw [hd5.blk] at hcur; cases hcur
              · obtain ⟨cur', h8⟩ := hd5.own.blk' hf
                rw [h8] at hcur; cases hcur
        case measure => simp [intOf]; omega
      · obtain rfl : k = n3 := by omega
        have hdd : normDs (ds.take k) ++ ds.drop k = normDs ds := by
          rw [List.take_of_length_le (by have := LD.out; omega), List.drop_of_length_le (by have := LD.out; omega), List.append_nil]
        rw [hdd] at F1
        have hln : (normDs ds).length = k := by unfold normDs; rw [List.length_map]; exact LD.out
        have TT := TAIL.out wr us' (normDs ds) A2 c2 n2 traps F1.out G1.out hln N.out.2.2.1 G1.out.cm.s2 (by have := HM.out.n2; omega) (fun d hd => by
          unfold normDs at hd
          obtain ⟨d', _, rfl⟩ := List.mem_map.1 hd
          show normR.length ≤ _
          unfold normR
          simp) (.inl fun d hd => by
          unfold normDs at hd
          obtain ⟨d', _, rfl⟩ := List.mem_map.1 hd
          show isA normR normalS = true
          unfold isA normR
          simp)
        have bx := G1.out.box
        rw [← N.out.1, ← N.out.2.1, ← N.out.2.2.1, ← N.out.2.2.2] at bx
        have b1 := blk_c bx 1
        clear hdd hln bx
        obtain ⟨wz, rfl⟩ : ∃ wz : World, wz = wr := ⟨_, rfl⟩
        go_wp2_with fail
        refine TT.out.mono ?_
        rintro e w6 ⟨b6, ⟨er, her, rfl⟩ | ⟨D, cd, S, rfl, hde⟩⟩
        · have HAW := Kp.mk (awake_any w6 (HT.out.below b6))
          have heb : (er != 0) = true := by simpa using her
          have B6 := Kp.mk b6
          clear her b6
          go_wp2_with (go_at_call 19; refine HAW.out.mono ?_; rintro e w7 ⟨rfl, b7⟩; have B7 := Kp.mk b7; clear b7)
          go_ret
          exact ⟨rfl, bstep B6.out B6.out.size B7.out⟩
        · have HDE := Kp.mk hde
          have B6 := Kp.mk b6
          clear hde b6
          go_wp2_with fail
          refine HDE.out.mono ?_
          rintro e w7 ⟨rfl, b7⟩
          have HAW := Kp.mk (awake_any w7 (HT.out.below (bstep B6.out B6.out.size b7)))
          have B7 := Kp.mk (bstep B6.out B6.out.size b7)
          clear b7
          go_wp2_with (go_at_call 19; refine HAW.out.mono ?_; rintro e w8 ⟨rfl, b8⟩; have B8 := Kp.mk b8; clear b8)
          go_ret
          exact ⟨rfl, bstep B7.out B7.out.size B8.out⟩
end Go.Proofs.YtameidoaenoppaaDoor

namespace Go.Proofs.YtameidoaenoppaaDoor
open Go.RowKit

/-- Has one of them the bond? -/
def goneB (D : List Dth) (b : Bd) : Bool := D.any (fun d => isOf d.p b)
theorem goneB_snoc {D : List Dth} {j : Nat} {d : Dth} (hd : D[j]? = some d) (b : Bd) : goneB (D.take (j + 1)) b = (goneB (D.take j) b || isOf d.p b) := by
  unfold goneB
  rw [List.take_add_one, hd, List.any_append]
  simp
theorem rnds_pre (live traps : List Int) (st : St) (i : Nat) : (rnds live traps i st).1.ds <+: (rnds live traps (i + 1) st).1.ds := by
  show _ <+: (rnd live traps i (rnds live traps i st)).1.ds
  unfold rnd
  split
  · exact List.prefix_rfl
  · exact (fold_grow live traps _ _ _).1
theorem rnds_left (live traps : List Int) (ds : List Dth) (ns : List NB) : ∀ i, (rnds live traps i (⟨ds, []⟩, ns)).2 = ns.filter (fun x => !goneB ((rnds live traps i (⟨ds, []⟩, ns)).1.ds.take i) x.2)
  | 0 => (List.filter_eq_self.2 (fun _ _ => by simp [goneB])).symm
  | i + 1 => by
    have ih := rnds_left live traps ds ns i
    have hp := rnds_pre live traps (⟨ds, []⟩, ns) i
    obtain ⟨st, hst⟩ : ∃ st, st = rnds live traps i (⟨ds, []⟩, ns) := ⟨_, rfl⟩
    have he : rnds live traps (i + 1) (⟨ds, []⟩, ns) = rnd live traps i st := by rw [hst]; rfl
    rw [← hst] at ih hp
    rw [he] at hp ⊢
    cases hd : st.1.ds[i]? with
    | none =>
      have e : rnd live traps i st = st := by unfold rnd; rw [hd]
      rw [e]
      rw [List.getElem?_eq_none_iff] at hd
      rw [List.take_of_length_le (by omega)] at ih
      rw [List.take_of_length_le (by omega)]
      exact ih
    | some d =>
      rw [rnd_some hd] at hp ⊢
      have hk := (List.getElem?_eq_some_iff.1 hd).1
      have h1 : (List.foldl (bond1 live traps d) st.1 (told d.p (sn st.2))).ds[i]? = some d := by
        obtain ⟨t, ht⟩ := hp
        rw [← ht, List.getElem?_append_left hk]
        exact hd
      have h2 : (List.foldl (bond1 live traps d) st.1 (told d.p (sn st.2))).ds.take i = st.1.ds.take i := by
        obtain ⟨t, ht⟩ := hp
        rw [← ht, List.take_append_of_le_length (by omega)]
      show leftN d.p st.2 = _
      simp only
      unfold leftN
      conv => lhs; rw [ih]
      rw [List.filter_filter]
      refine List.filter_congr fun x _ => ?_
      rw [goneB_snoc h1, h2]
      cases isOf d.p x.2 <;> cases goneB (st.1.ds.take i) x.2 <;> rfl
theorem sprd_left {live traps : List Int} {ds : List Dth} {ns : List NB} {last : Int} {n : Nat} (h : OkR live n (⟨ds, []⟩, ns) last) : sn (sprd live traps ds ns).2 = (sn ns).filter (fun b => !goneB (sprd live traps ds ns).1.ds b) := by
  have h1 := rnds_left live traps ds ns live.length
  have h2 := (h.rnds (traps := traps) live.length).s.le
  rw [List.take_of_length_le h2] at h1
  unfold sprd
  conv => lhs; rw [h1]
  unfold sn
  rw [List.filter_map]
  rfl
theorem fil_snoc {α : Type} (f : α → Bool) {L : List α} {k : Nat} {x : α} (hx : L[k]? = some x) : (L.take (k + 1)).filter f = (L.take k).filter f ++ (if f x = true then [x] else []) := by
  rw [List.take_add_one, hx, List.filter_append]
  simp [List.filter_cons]
theorem okr_start {live traps : List Int} {ds : List Dth} {ns : List NB} {last : Int} (hw : wrongE live traps ds = 0) (hg : GOk ns last) : OkR live (ds.length + ns.length) (⟨ds, []⟩, ns) last :=
  ⟨⟨(wrongE_ok hw).2.2.2.2.1, (wrongE_ok hw).2.2.2.2.2, (wrongE_ok hw).2.2.2.1⟩, hg, by simp⟩
set_option maxRecDepth 100000 in
set_option maxHeartbeats 16000000 in
theorem signalLeft_any (w : World) (A0 : Option Addr) (c0 : Nat) (ops : List OpM) (A1 : Option Addr) (c1 : Nat) (live : List Int) (A2 : Option Addr) (c2 : Nat) (traps : List Int) (A3 : Option Addr) (c3 : Nat) (vs : List Dv) (ds : List Dth)
    (hm : CaseM w A0 c0 ops A1 c1 live A2 c2 traps A3 c3 vs ds) (hT : Tabs w) :
    Calls Tryd.prog 8 #[caseV A0 c0 ops.length A1 c1 live.length A2 c2 traps.length A3 c3 vs.length] w fun e w' => e = .returned (.bool true) ∧ Below w.heap.size w w' := by
  have HM := Kp.mk hm
  have HT := Kp.mk hT
  have HMB := Kp.mk (made_beg hm)
  clear hm hT
  obtain ⟨n0, h0⟩ : ∃ n, n = ops.length := ⟨_, rfl⟩
  obtain ⟨n1, h1⟩ : ∃ n, n = live.length := ⟨_, rfl⟩
  obtain ⟨n2, h2⟩ : ∃ n, n = traps.length := ⟨_, rfl⟩
  obtain ⟨n3, h3⟩ : ∃ n, n = vs.length := ⟨_, rfl⟩
  have N := Kp.mk (And.intro h0 (And.intro h1 (And.intro h2 h3)))
  unfold caseV
  rw [← h0, ← h1, ← h2, ← h3] at HMB ⊢
  clear h0 h1 h2 h3
  go_enter Tryd.func8, Tryd.ntmps8
  go_wp2_with fail
  refine HMB.out.mono ?_
  rintro e w2 ⟨p, bm, lm, rm, q, lv, ns, last, rfl, hbg⟩
  have HBG := Kp.mk hbg
  have bx := hbg.box
  rw [← N.out.1, ← N.out.2.1, ← N.out.2.2.1, ← N.out.2.2.2] at bx
  have b1 := blk_c bx 1
  have b2 := blk_c bx 2
  have b3 := blk_c bx 3
  have hsp := spread_all w2 p bm lm rm ns last A1 A2 A3 c1 c2 c3 live traps vs ds hbg.g (by have := hbg.last; omega) hbg.cm.s1 hbg.cm.s2 hbg.cm.s3 hbg.cm.rd (fun w' hc => HT.out.below (chg_below hbg.bel hc (fun g hg => Nat.le_of_lt (hbg.fg g hg)) hbg.bel.size))
    (by have := HM.out.n1; omega) (by have := HM.out.n2; omega) (by have := HM.out.n3; omega) HM.out.cc (fun d hd => by have := (HM.out.n4 d hd).2; omega)
  rw [← N.out.2.1, ← N.out.2.2.1, ← N.out.2.2.2] at hsp
  have HSP := Kp.mk hsp
  have LL : Kp (last ≤ 1000000000000000000) := ⟨by have := hbg.last; omega⟩
  clear hbg bx hsp
  go_wp2_with fail
  refine HSP.out.mono ?_
  rintro e w3 (⟨hw, dv, sv, vs9, us9, rfl, k1, k2, k3, k4, k5⟩ | ⟨hw, rfl, hb⟩)
  rotate_left
  · have G3' := Kp.mk (HBG.out.below hb)
    have heb : (wrongE live traps ds != 0) = true := by simpa using hw
    obtain ⟨er, her⟩ : ∃ er, er = wrongE live traps ds := ⟨_, rfl⟩
    rw [← her] at heb ⊢
    obtain ⟨Aq, cq, hlv, hcq⟩ := G3'.out.d.sh
    obtain ⟨nl, hnl⟩ : ∃ n, n = (sn ns).length := ⟨_, rfl⟩
    have NL := Kp.mk hnl
    rw [← hnl] at hcq hlv
    have HCQ := Kp.mk hcq
    have HLV := Kp.mk hlv
    have hqb : nl ≤ 1024 := by rw [hnl]; exact G3'.out.g.ok.n1024
    clear hw her hb hcq hlv hnl b1 b2 b3
    go_upto_region 6 with fail
    have GD := Kp.mk (G3'.out.below (Below.refl _ _).drew)
    have AT : Kp (w3.drew.cell? ⟨q, 0, none⟩ = some (.slice Aq nl cq)) := ⟨HCQ.out⟩
    have HAL := Kp.mk (all_any GD.out.g LL.out)
    refine R_begin 999 (fun w9 => w9.cell? ⟨q, 0, none⟩ = some (.slice Aq nl cq)) (by kernel_rfl) AT.out (fun HP0 => ?_)
    refine R_pure 0 rfl (by kernel_rfl) HP0 ?_
    apply Exists.intro
    refine ⟨fun _ _ _ h => h, .inl ⟨by kernel_rfl, fun w9 h9 => ?_⟩, fun HP1 => ?_⟩
    · clear h9; go_simp; first | done | rfl
    clear HP0
    refine R_pure 2 rfl (by kernel_rfl) HP1 ?_
    apply Exists.intro
    refine ⟨fun _ _ _ h => h, .inl ⟨by kernel_rfl, fun w9 h9 => ?_⟩, fun HP2 => ?_⟩
    · clear h9; go_simp; first | done | rfl
    clear HP1
    refine R_pure 3 rfl (by kernel_rfl) HP2 ?_
    apply Exists.intro
    refine ⟨fun _ _ _ h => h, .inl ⟨by kernel_rfl, fun w9 h9 => ?_⟩, fun HP3 => ?_⟩
    · clear h9; go_simp; first | done | rfl
    clear HP2
    refine R_pure 4 rfl (by kernel_rfl) HP3 ?_
    apply Exists.intro
    refine ⟨fun _ _ _ h => h, .inl ⟨by kernel_rfl, fun w9 h9 => ?_⟩, fun HP4 => ?_⟩
    · clear h9; go_simp; first | done | rfl
    clear HP3
    refine R_take 5 rfl (by kernel_rfl) HP4 ?_
    apply Exists.intro
    refine ⟨fun _ _ _ h => h, .inl ⟨by kernel_rfl, fun w9 h9 => ?_⟩, fun HP5 => ?_⟩
    · obtain s1 := h9; go_simp; first | done | rfl
    clear HP4
    refine R_all [1] (by kernel_rfl) ?_
    refine AllR.cons (i := 1) rfl (fun K9 HK9 => ?_) ?_
    · go_simp
      refine HAL.out.mono ?_
      rintro e w5 ⟨v5, rfl, o5, f5, b5⟩
      obtain ⟨A5, c5, hv5, _⟩ := o5.shape
      subst hv5
      have G5 := Kp.mk (GD.out.below b5)
      have hl5 : (sn ns).length = nl := NL.out.symm
      have hbo := bonds_any w5 A5 Aq c5 cq (sn ns) (o5.src rfl) (by have h9 := G5.out.d.own.src HLV.out; exact h9) (by omega)
      rw [hl5] at hbo ⊢
      have HBO := Kp.mk hbo
      have AT5 : Kp (w5.cell? ⟨q, 0, none⟩ = some (.slice Aq nl cq)) := ⟨(b5.cell (World.block_lt_of_cell? _ _ AT.out)).trans AT.out⟩
      clear o5 f5 b5 hl5 hbo
      go_simp
      refine HK9.out _ _ (.inr AT5.out) (fun HP6 => ?_)
      clear HK9 K9
      refine R_all [6] (by kernel_rfl) ?_
      refine AllR.cons (i := 6) rfl (fun K9 HK9 => ?_) ?_
      · go_simp
        refine HBO.out.mono ?_
        rintro e w6 ⟨rfl, b6⟩
        have AT6 : Kp (w6.cell? ⟨q, 0, none⟩ = some (.slice Aq nl cq)) := ⟨(b6.cell (World.block_lt_of_cell? _ _ AT5.out)).trans AT5.out⟩
        have G6 := Kp.mk (G5.out.below b6)
        have HAW := Kp.mk (awake_any w6 (HT.out.below G6.out.bel))
        clear b6
        go_simp
        refine HK9.out _ _ (.inr AT6.out) (fun HP7 => ?_)
        clear HK9 K9
        refine R_pure 7 rfl (by kernel_rfl) HP7 ?_
        apply Exists.intro
        refine ⟨fun _ _ _ h => h, .inl ⟨by kernel_rfl, fun w9 h9 => ?_⟩, fun HP8 => ?_⟩
        · clear h9; go_simp; first | done | rfl
        clear HP7
        refine R_all [8] (by kernel_rfl) ?_
        refine AllR.cons (i := 8) rfl (fun K9 HK9 => ?_) ?_
        · go_simp
          refine HAW.out.mono ?_
          rintro e w7 ⟨rfl, b7⟩
          have AT7 : Kp (w7.cell? ⟨q, 0, none⟩ = some (.slice Aq nl cq)) := ⟨(b7.cell (World.block_lt_of_cell? _ _ AT6.out)).trans AT6.out⟩
          have B7 := Kp.mk (G6.out.below b7).bel
          clear b7
          go_simp
          refine HK9.out _ _ (.inr AT7.out) (fun HP9 => ?_)
          clear HK9 K9
          refine R_pure 9 rfl (by kernel_rfl) HP9 ?_
          apply Exists.intro
          refine ⟨fun _ _ _ h => h, .inl ⟨by kernel_rfl, fun w9 h9 => ?_⟩, fun HP10 => ?_⟩
          · clear h9; go_simp; first | done | rfl
          clear HP9
          refine R_pure 10 rfl (by kernel_rfl) HP10 ?_
          apply Exists.intro
          refine ⟨fun _ _ _ h => h, .inl ⟨by kernel_rfl, fun w9 h9 => ?_⟩, fun HP11 => ?_⟩
          · clear h9; go_simp; first | done | rfl
          clear HP10
          refine R_done (by kernel_rfl) ?_
          go_wp2
          go_ret
          exact ⟨rfl, B7.out⟩
        exact AllR.nil
      exact AllR.nil
    exact AllR.nil
  have HW := Kp.mk hw
  obtain ⟨hbel, hcm, hid, hbx⟩ := HBG.out.spread HM.out k5
  have HB3 := Kp.mk hbel
  have HID := Kp.mk hid
  have HSL := Kp.mk (sprd_left (traps := traps) (okr_start hw HBG.out.g.ok))
  obtain ⟨D, hD⟩ : ∃ D, D = (sprd live traps ds ns).1.ds := ⟨_, rfl⟩
  obtain ⟨NS, hNS⟩ : ∃ N, N = (sprd live traps ds ns).2 := ⟨_, rfl⟩
  have hdl : D.length ≤ 1099511627776 := by
    rw [hD]
    unfold sprd
    exact ((okr_start (traps := traps) hw HBG.out.g.ok).rnds (traps := traps) live.length).s.len (wrongE_ok hw).1
  rw [← hD] at k1 HSL
  rw [← hNS] at k4 HSL
  have K1 := Kp.mk k1
  have K4 := Kp.mk k4
  obtain ⟨Dv1, cd, hv, _⟩ := k1.own.shape
  obtain ⟨m, hm⟩ : ∃ m, m = D.length := ⟨_, rfl⟩
  have MM := Kp.mk hm
  rw [k1.len, ← hm] at hv
  subst hv
  rw [← hm] at hdl
  obtain ⟨Aq, cq, hlv, hcq⟩ := hid.sh
  obtain ⟨nl, hnl⟩ : ∃ n, n = (sn ns).length := ⟨_, rfl⟩
  have NL := Kp.mk hnl
  rw [← hnl] at hcq hlv
  subst hlv
  have SQ := Kp.mk (hid.own.src rfl)
  have hqb : nl ≤ 1024 := by rw [hnl]; exact HBG.out.g.ok.n1024
  clear hw k1 k2 k3 k4 k5 hbel hcm hid hbx hm hnl hD hNS b1 b2 b3
  obtain ⟨FB, hFB⟩ : ∃ f : Bd → Bool, f = fun b => !goneB D b := ⟨_, rfl⟩
  have HFB := Kp.mk hFB
  clear hFB
  go_wp2
  go_loopw [8, 10, 11, 13, 51, 57] (fun l _ _ _ i _ wr => ∃ (k : Nat) (B : Option Addr) (mm d : Nat) (L : List Bd), k ≤ nl ∧ i = .int .i64 k ∧ l = .slice B mm d ∧ mm ≤ k ∧ Kp (L.length = mm ∧ L = ((sn ns).take k).filter FB) ∧ Kp (Own wr 59 eBd (.slice B mm d) L) ∧ Kp (Fresh w3 (.slice B mm d)) ∧ Kp (Below w3.heap.size w3 wr)) (fun _ _ _ _ i _ _ => nl - (intOf i).toNat)
  case atStart => exact ⟨0, none, 0, 0, [], Nat.zero_le _, rfl, rfl, Nat.le_refl _, ⟨rfl, rfl⟩, ⟨Own.nil _ _ _⟩, ⟨Fresh.nil _ _ _⟩, ⟨Below.refl _ _⟩⟩
  case round =>
    obtain ⟨k, B, mm, dd, L, hk, rfl, rfl, hmk, HL, HO, HF, HB⟩ := hrel
    by_cases hlt : k < nl
    · obtain ⟨x, hx⟩ : ∃ x, (sn ns)[k]? = some x := ⟨_, List.getElem?_eq_getElem (by have := NL.out; omega)⟩
      obtain ⟨ad, rfl⟩ : ∃ ad, Aq = some ad := by
        cases Aq with
        | none => have h9 := (SQ.out.none rfl).1; rw [h9] at hx; simp at hx
        | some ad => exact ⟨ad, rfl⟩
      obtain ⟨g, o, rfl⟩ := SQ.out.addr (by have := NL.out; omega)
      obtain ⟨a0, a1, a2⟩ := (SQ.out.below HB.out).bd k x hx
      obtain ⟨xa, xb, xr⟩ := x
      simp only at a0 a1 a2
      have HX := Kp.mk hx
      have k0 : (0 : Int) ≤ (k : Int) := by omega
      have k1 : (k : Int) < (nl : Int) := by omega
      have hbx : Below wr.heap.size wr (wr.alloc (.cells #[.int .i64 xa, .int .i64 xb, .int .i64 xr] 59)) := (Below.refl _ _).alloc (Nat.le_refl _) _
      have XX := Kp.mk (blk_new wr (.cells #[.int .i64 xa, .int .i64 xb, .int .i64 xr] 59))
      have HBX := Kp.mk hbx
      clear hx hbx
      go_wp2
      obtain ⟨bb, hbb⟩ : ∃ bb, bb = wr.heap.size := ⟨_, rfl⟩
      rw [← hbb] at XX ⊢
      have BBB := Kp.mk hbb
      obtain ⟨WO, hWO⟩ : ∃ WO, WO = wr.alloc (.cells #[.int .i64 xa, .int .i64 xb, .int .i64 xr] 59) := ⟨_, rfl⟩
      rw [← hWO] at XX HBX ⊢
      have HBO := Kp.mk (bstep HB.out HB.out.size HBX.out)
      clear hbb hWO a0 a1 a2
      go_loopw [11, 13, 57] (fun gb _ i wi => ∃ (j : Nat), j ≤ m ∧ i = .int .i64 j ∧ gb = .bool (goneB (D.take j) ⟨xa, xb, xr⟩) ∧ Kp (Below WO.heap.size WO wi)) (fun _ _ i _ => m - (intOf i).toNat)
      case atStart => exact ⟨0, Nat.zero_le _, rfl, rfl, ⟨Below.refl _ _⟩⟩
      case round =>
        obtain ⟨j, hj, rfl, rfl, HI⟩ := hrel
        obtain ⟨wi, hwi⟩ : ∃ wi : World, wi = wr := ⟨_, rfl⟩
        rw [← hwi] at HI ⊢
        clear hwi
        by_cases hjt : j < m
        · obtain ⟨d, hd⟩ : ∃ d, D[j]? = some d := ⟨_, List.getElem?_eq_getElem (by have := MM.out; omega)⟩
          obtain ⟨y, hy⟩ : ∃ y, vs9[j]? = some y := ⟨_, List.getElem?_eq_getElem (by have := MM.out; have := K1.out.len; omega)⟩
          have hyp := (K1.out.tx j y d hy hd).1
          obtain ⟨ad, rfl⟩ : ∃ ad, Dv1 = some ad := by
            cases Dv1 with
            | none => have h9 := ((K1.out.own.src rfl).none rfl).1; rw [h9] at hy; simp at hy
            | some ad => exact ⟨ad, rfl⟩
          obtain ⟨g2, o2, rfl⟩ := (K1.out.own.src rfl).addr (by have := (List.getElem?_eq_some_iff.1 hy).1; omega)
          have HBI := Kp.mk (bstep HBO.out HBO.out.size HI.out)
          obtain ⟨y0, y1⟩ := ((K1.out.own.src rfl).below HBI.out).dv j y hy
          have hsn := goneB_snoc hd ⟨xa, xb, xr⟩
          rw [← hyp] at hsn
          obtain ⟨yp, yA, yn, yc⟩ := y
          simp only at y0 y1 hsn
          have XI := Kp.mk ((HI.out.block bb (lt_of_block XX.out)).trans XX.out)
          have q0 := blk_c XI.out 0
          have q1 := blk_c XI.out 1
          have lbb := lt_of_block XI.out
          have HSN := Kp.mk hsn
          have j0 : (0 : Int) ≤ (j : Int) := by omega
          have j1 : (j : Int) < (m : Int) := by omega
          have HY2 := Kp.mk ((HI.out.trans (((Below.refl wi.heap.size wi).alloc (Nat.le_refl _) (.cells #[.int .i64 yp, .slice yA yn yc] 48)).mono HI.out.size)))
          clear hy hd hyp hsn
          cases hgb : goneB (D.take j) ⟨xa, xb, xr⟩
          · rw [hgb, Bool.false_or] at HSN
            clear hgb
            by_cases h1 : xa = yp
            · have hb1 : (xa == yp) = true := by simpa using h1
              have HV : Kp (goneB (D.take (j + 1)) ⟨xa, xb, xr⟩ = true) := ⟨by rw [HSN.out]; unfold isOf; exact decide_eq_true (.inl h1)⟩
              clear h1
              go_wp2
              go_roundw
              case rel => exact ⟨j + 1, by omega, by go_num, by rw [HV.out], HY2⟩
              case measure => simp [intOf]; omega
            · have hb1 : (xa == yp) = false := by simpa using h1
              by_cases h2 : xb = yp
              · have hb2 : (xb == yp) = true := by simpa using h2
                have HV : Kp (goneB (D.take (j + 1)) ⟨xa, xb, xr⟩ = true) := ⟨by rw [HSN.out]; unfold isOf; exact decide_eq_true (.inr h2)⟩
                clear h1 h2
                go_wp2
                go_roundw
                case rel => exact ⟨j + 1, by omega, by go_num, by rw [HV.out], HY2⟩
                case measure => simp [intOf]; omega
              · have hb2 : (xb == yp) = false := by simpa using h2
                have HV : Kp (goneB (D.take (j + 1)) ⟨xa, xb, xr⟩ = false) := ⟨by rw [HSN.out]; unfold isOf; exact decide_eq_false (fun h => h.elim h1 h2)⟩
                clear h1 h2
                go_wp2
                go_roundw
                case rel => exact ⟨j + 1, by omega, by go_num, by rw [HV.out], HY2⟩
                case measure => simp [intOf]; omega
          · rw [hgb, Bool.true_or] at HSN
            clear hgb
            go_wp2
            go_roundw
            case rel => exact ⟨j + 1, by omega, by go_num, by rw [HSN.out], HY2⟩
            case measure => simp [intOf]; omega
        · obtain rfl : j = m := by omega
          have hta : D.take j = D := List.take_of_length_le (by have := MM.out; omega)
          rw [hta]
          have XI := Kp.mk ((HI.out.block bb (lt_of_block XX.out)).trans XX.out)
          have HBI := Kp.mk (bstep HBO.out HBO.out.size HI.out)
          have OI := Kp.mk ((HO.out.below HBX.out).below HI.out)
          have HFS := Kp.mk (fil_snoc FB HX.out)
          clear hta
          cases hgb : goneB D ⟨xa, xb, xr⟩
          · have hfb : FB ⟨xa, xb, xr⟩ = true := by rw [HFB.out]; simp [hgb]
            rw [hfb, if_pos rfl] at HFS
            have q0 := blk_c XI.out 0
            have q1 := blk_c XI.out 1
            have q2 := blk_c XI.out 2
            have hmm : L.length = mm := HL.out.1
            have HMM := Kp.mk hmm
            clear hgb hfb hmm
            go_wp2_with (at_builtin; refine app1_ev T27 ⟨xa, xb, xr⟩ rfl _ _ rfl OI.out rfl rfl rfl rfl rfl (by have := HMM.out; omega) (by have := HMM.out; omega) ?_; intro A4 n4 c4 w4 d0 d1 d2 d3; have D0 := d0; have D1 := Kp.mk d1; have D2 := Kp.mk d2; have D3 := Kp.mk d3; clear d0 d1 d2 d3)
            obtain rfl : n4 = mm + 1 := by have h1 := D0.out; have := HMM.out; omega
            go_roundw
            case rel =>
              refine ⟨k + 1, A4, mm + 1, c4, L ++ [⟨xa, xb, xr⟩], by omega, by go_num, rfl, by omega, ⟨by rw [List.length_append, HMM.out]; rfl, by rw [HFS.out, ← HL.out.2]⟩, D1, ⟨HF.out.app HBI.out.size D3.out⟩, ⟨chg_below HBI.out D2.out (fun g hg => HF.out g hg) HBI.out.size⟩⟩
            case measure => simp [intOf]; omega
          · have hfb : ¬ FB ⟨xa, xb, xr⟩ = true := by rw [HFB.out]; simp [hgb]
            rw [if_neg hfb, List.append_nil] at HFS
            clear hgb hfb
            go_wp2
            go_roundw
            case rel => exact ⟨k + 1, B, mm, dd, L, by omega, by go_num, rfl, by omega, ⟨HL.out.1, by rw [HFS.out]; exact HL.out.2⟩, OI, HF, HBI⟩
            case measure => simp [intOf]; omega
    · obtain rfl : k = nl := by omega
      have hL : Kp (L = sn NS) := ⟨by rw [HL.out.2, List.take_of_length_le (by have := NL.out; omega), HSL.out, HFB.out]⟩
      have HAL := Kp.mk (all_any (K4.out.below HB.out) LL.out)
      obtain ⟨wz, rfl⟩ : ∃ wz : World, wz = wr := ⟨_, rfl⟩
      go_wp2_with fail
      refine HAL.out.mono ?_
      rintro e w6 ⟨v6, rfl, o6, f6, b6⟩
      obtain ⟨A6, c6, hv6, _⟩ := o6.shape
      subst hv6
      have HMM : Kp (L.length = mm) := ⟨HL.out.1⟩
      have hl6 : (sn NS).length = mm := by rw [← hL.out]; exact HMM.out
      have hbo := bonds_any w6 A6 B c6 dd (sn NS) (o6.src rfl) (by have h9 := (HO.out.below b6).src rfl; rw [hL.out] at h9; exact h9) (by rw [hl6]; omega)
      rw [hl6] at hbo ⊢
      have HBO := Kp.mk hbo
      have B6 := Kp.mk (bstep HB.out HB.out.size b6)
      clear o6 f6 b6 hbo hl6
      go_wp2_with fail
      refine HBO.out.mono ?_
      rintro e w7 ⟨rfl, b7⟩
      have B7 := Kp.mk (bstep HB3.out HB3.out.size (bstep B6.out B6.out.size b7))
      have HAW := Kp.mk (awake_any w7 (HT.out.below B7.out))
      clear b7
      go_wp2_with (go_at_call 19; refine HAW.out.mono ?_; rintro e w8 ⟨rfl, b8⟩; have B8 := Kp.mk (bstep B7.out B7.out.size b8); clear b8)
      go_ret
      exact ⟨rfl, B8.out⟩
end Go.Proofs.YtameidoaenoppaaDoor

namespace Go.Proofs.YtameidoaenoppaaDoor
open Go.RowKit

theorem OwnT.rd {w0 w w' : World} {A : Option Addr} {m c : Nat} {vs : List Dv} {D : List Dth} (h : OwnT w0 w 48 (.slice A m c) vs D) (hb : Below w.heap.size w w') {j : Nat} {d : Dth} (hd : D[j]? = some d) :
    ∃ g B n k, A = some ⟨g, 0, none⟩ ∧ w'.cell? ⟨g, j * 2, none⟩ = some (.int .i64 d.p) ∧ w'.cell? ⟨g, j * 2 + 1, none⟩ = some (.slice B n k) := by
  obtain ⟨y, hy⟩ : ∃ y, vs[j]? = some y := ⟨_, List.getElem?_eq_getElem (by rw [h.len]; exact (List.getElem?_eq_some_iff.1 hd).1)⟩
  have hp := (h.tx j y d hy hd).1
  obtain ⟨A', c', hv, _, _, h5, h6⟩ := h.own.shape
  cases hv
  cases A with
  | none => have := (h5 rfl).1; rw [this] at hy; simp at hy
  | some a =>
    obtain ⟨g, rfl⟩ := h6 a rfl
    obtain ⟨y0, y1⟩ := ((h.own.src rfl).below hb).dv j y hy
    rw [Nat.zero_add] at y0 y1
    rw [hp] at y0
    exact ⟨g, _, _, _, rfl, y0, y1⟩
theorem rnds_none (live traps : List Int) (ns : List NB) : ∀ i, rnds live traps i (⟨[], []⟩, ns) = (⟨[], []⟩, ns)
  | 0 => rfl
  | i + 1 => by
    show rnd live traps i (rnds live traps i (⟨[], []⟩, ns)) = _
    rw [rnds_none live traps ns i]
    rfl
theorem sprd_none (live traps : List Int) (ns : List NB) : sprd live traps [] ns = (⟨[], []⟩, ns) := rnds_none live traps ns _
def leftP (D : List Dth) (live : List Int) : List Int := live.filter (fun p => !decide (p ∈ pids D))
theorem leftP_wrong {live traps : List Int} {ds D : List Dth} (h : wrongE live traps ds = 0) : wrongE (leftP D live) traps [] = 0 := by
  obtain ⟨h1, h2, _⟩ := wrongE_ok h
  have h3 : badP (leftP D live) = false := by
    unfold badP at h1 ⊢
    rw [List.any_eq_false] at h1 ⊢
    exact fun x hx => h1 x (List.mem_filter.1 hx).1
  unfold wrongE
  rw [if_neg (by rw [h3, h2]; simp [pids, badP])]
  simp [pids]
def deadB (D : List Dth) (p : Int) : Bool := D.any (fun d => decide (d.p = p))
theorem deadB_snoc {D : List Dth} {j : Nat} {d : Dth} (hd : D[j]? = some d) (p : Int) : deadB (D.take (j + 1)) p = (deadB (D.take j) p || decide (d.p = p)) := by
  unfold deadB
  rw [List.take_add_one, hd, List.any_append]
  simp
theorem deadB_mem (D : List Dth) (p : Int) : deadB D p = decide (p ∈ pids D) := by
  unfold deadB pids
  rw [Bool.eq_iff_iff, List.any_eq_true, decide_eq_true_eq, List.mem_map]
  constructor
  · rintro ⟨d, h1, h2⟩; exact ⟨d, h1, of_decide_eq_true h2⟩
  · rintro ⟨d, h1, h2⟩; exact ⟨d, h1, decide_eq_true h2⟩
theorem pids_at {D : List Dth} {i : Nat} {d : Dth} (h : D[i]? = some d) : (pids D)[i]? = some d.p := by unfold pids; rw [List.getElem?_map, h]; rfl
theorem nodup_ne {D : List Dth} (h : (pids D).Nodup) {i j : Nat} {d e : Dth} (hi : D[i]? = some d) (hj : D[j]? = some e) (hij : j < i) : d.p ≠ e.p := fun he => by
  obtain ⟨a1, h1⟩ := List.getElem?_eq_some_iff.1 (pids_at hi)
  obtain ⟨a2, h2⟩ := List.getElem?_eq_some_iff.1 (pids_at hj)
  have := List.pairwise_iff_getElem.1 h j i a2 a1 hij
  rw [h1, h2] at this
  exact this he.symm
set_option maxRecDepth 100000 in
set_option maxHeartbeats 16000000 in
theorem signalOnce_any (w : World) (A0 : Option Addr) (c0 : Nat) (ops : List OpM) (A1 : Option Addr) (c1 : Nat) (live : List Int) (A2 : Option Addr) (c2 : Nat) (traps : List Int) (A3 : Option Addr) (c3 : Nat) (vs : List Dv) (ds : List Dth)
    (hm : CaseM w A0 c0 ops A1 c1 live A2 c2 traps A3 c3 vs ds) (hT : Tabs w) :
    Calls Tryd.prog 7 #[caseV A0 c0 ops.length A1 c1 live.length A2 c2 traps.length A3 c3 vs.length] w fun e w' => e = .returned (.bool true) ∧ Below w.heap.size w w' := by
  have HM := Kp.mk hm
  have HT := Kp.mk hT
  have HMB := Kp.mk (made_beg hm)
  clear hm hT
  obtain ⟨n0, h0⟩ : ∃ n, n = ops.length := ⟨_, rfl⟩
  obtain ⟨n1, h1⟩ : ∃ n, n = live.length := ⟨_, rfl⟩
  obtain ⟨n2, h2⟩ : ∃ n, n = traps.length := ⟨_, rfl⟩
  obtain ⟨n3, h3⟩ : ∃ n, n = vs.length := ⟨_, rfl⟩
  have N := Kp.mk (And.intro h0 (And.intro h1 (And.intro h2 h3)))
  unfold caseV
  rw [← h0, ← h1, ← h2, ← h3] at HMB ⊢
  clear h0 h1 h2 h3
  have hn1 : n1 ≤ 17592186043904 := by have := HM.out.n1; have := N.out.2.1; omega
  go_enter Tryd.func7, Tryd.ntmps7
  go_wp2_with fail
  refine HMB.out.mono ?_
  rintro e w2 ⟨p, bm, lm, rm, q, lv, ns, last, rfl, hbg⟩
  have HBG := Kp.mk hbg
  have bx := hbg.box
  rw [← N.out.1, ← N.out.2.1, ← N.out.2.2.1, ← N.out.2.2.2] at bx
  have b1 := blk_c bx 1
  have b2 := blk_c bx 2
  have b3 := blk_c bx 3
  have hsp := spread_all w2 p bm lm rm ns last A1 A2 A3 c1 c2 c3 live traps vs ds hbg.g (by have := hbg.last; omega) hbg.cm.s1 hbg.cm.s2 hbg.cm.s3 hbg.cm.rd (fun w' hc => HT.out.below (chg_below hbg.bel hc (fun g hg => Nat.le_of_lt (hbg.fg g hg)) hbg.bel.size))
    (by have := HM.out.n1; omega) (by have := HM.out.n2; omega) (by have := HM.out.n3; omega) HM.out.cc (fun d hd => by have := (HM.out.n4 d hd).2; omega)
  rw [← N.out.2.1, ← N.out.2.2.1, ← N.out.2.2.2] at hsp
  have HSP := Kp.mk hsp
  have LL : Kp (last ≤ 1000000000000000000) := ⟨by have := hbg.last; omega⟩
  clear hbg bx hsp
  go_wp2_with fail
  refine HSP.out.mono ?_
  rintro e w3 (⟨hw, dv, sv, vs9, us9, rfl, k1, k2, k3, k4, k5⟩ | ⟨hw, rfl, hb⟩)
  rotate_left
  · have G3' := Kp.mk (HBG.out.below hb)
    have heb : (wrongE live traps ds != 0) = true := by simpa using hw
    obtain ⟨er, her⟩ : ∃ er, er = wrongE live traps ds := ⟨_, rfl⟩
    rw [← her] at heb ⊢
    have HAW := Kp.mk (awake_any w3 (HT.out.below G3'.out.bel))
    clear hw her hb b1 b2 b3
    go_wp2_with (go_at_call 19; refine HAW.out.mono ?_; rintro e w7 ⟨rfl, b7⟩; have B7 := Kp.mk (G3'.out.below b7).bel; clear b7)
    go_ret
    exact ⟨rfl, B7.out⟩
  have HW := Kp.mk hw
  obtain ⟨hbel, hcm, hid, hbx⟩ := HBG.out.spread HM.out k5
  have HB3 := Kp.mk hbel
  have HSL := Kp.mk (sprd_left (traps := traps) (okr_start hw HBG.out.g.ok))
  have OKR := Kp.mk ((okr_start (traps := traps) hw HBG.out.g.ok).rnds (traps := traps) live.length)
  obtain ⟨D, hD⟩ : ∃ D, D = (sprd live traps ds ns).1.ds := ⟨_, rfl⟩
  obtain ⟨NS, hNS⟩ : ∃ N, N = (sprd live traps ds ns).2 := ⟨_, rfl⟩
  have hdl : D.length ≤ 1099511627776 := by
    rw [hD]
    exact OKR.out.s.len (wrongE_ok hw).1
  have ND : Kp ((pids D).Nodup) := ⟨by rw [hD]; exact OKR.out.s.nodup⟩
  rw [← hD] at k1 HSL
  rw [← hNS] at k4 HSL
  have K1 := Kp.mk k1
  have K4 := Kp.mk k4
  have KS1 := Kp.mk hcm.s1
  have KS2 := Kp.mk hcm.s2
  obtain ⟨Dv1, cd, hv, hcd, hcm2, _⟩ := k1.own.shape
  unfold maxLen at hcm2
  obtain ⟨m, hm⟩ : ∃ m, m = D.length := ⟨_, rfl⟩
  have MM := Kp.mk hm
  rw [k1.len, ← hm] at hv hcd
  subst hv
  rw [← hm] at hdl
  rw [← N.out.1, ← N.out.2.1, ← N.out.2.2.1, ← N.out.2.2.2] at hbx
  have BX := Kp.mk hbx
  clear hw k1 k2 k3 k4 k5 hbel hcm hid hbx hm hD hNS b1 b2 b3
  -- nobody twice
  go_wp2
  go_loopw [9, 10, 12, 56, 65] (fun _ _ _ i _ wr => ∃ (k : Nat), k ≤ m ∧ i = .int .i64 k ∧ Kp (Below w3.heap.size w3 wr)) (fun _ _ _ i _ _ => m - (intOf i).toNat)
  case atStart => exact ⟨0, Nat.zero_le _, rfl, ⟨Below.refl _ _⟩⟩
  case round =>
    obtain ⟨k, hk, rfl, HB⟩ := hrel
    by_cases hlt : k < m
    · obtain ⟨d, hd⟩ : ∃ d, D[k]? = some d := ⟨_, List.getElem?_eq_getElem (by have := MM.out; omega)⟩
      obtain ⟨g, Bt, nt, kt, rfl, y0, y1⟩ := K1.out.rd HB.out hd
      have k0 : (0 : Int) ≤ (k : Int) := by omega
      have k1 : (k : Int) < (m : Int) := by omega
      have kc : k ≤ cd := by omega
      have XX := Kp.mk (blk_new wr (.cells #[.int .i64 d.p, .slice Bt nt kt] 48))
      have HBO := Kp.mk (HB.out.alloc HB.out.size (.cells #[.int .i64 d.p, .slice Bt nt kt] 48))
      have HD := Kp.mk hd
      clear hd
      go_wp2
      obtain ⟨bb, hbb⟩ : ∃ bb, bb = wr.heap.size := ⟨_, rfl⟩
      rw [← hbb] at XX ⊢
      obtain ⟨WO, hWO⟩ : ∃ WO, WO = wr.alloc (.cells #[.int .i64 d.p, .slice Bt nt kt] 48) := ⟨_, rfl⟩
      rw [← hWO] at XX HBO ⊢
      clear hbb hWO y0 y1
      go_loopw [12, 65] (fun _ i wi => ∃ (j : Nat), j ≤ k ∧ i = .int .i64 j ∧ Kp (Below WO.heap.size WO wi)) (fun _ i _ => k - (intOf i).toNat)
      case atStart => exact ⟨0, Nat.zero_le _, rfl, ⟨Below.refl _ _⟩⟩
      case round =>
        obtain ⟨j, hj, rfl, HI⟩ := hrel
        obtain ⟨wi, hwi⟩ : ∃ wi : World, wi = wr := ⟨_, rfl⟩
        rw [← hwi] at HI ⊢
        clear hwi
        have XI := Kp.mk ((HI.out.block bb (lt_of_block XX.out)).trans XX.out)
        have HBI := Kp.mk (bstep HBO.out HBO.out.size HI.out)
        by_cases hjt : j < k
        · obtain ⟨e, he⟩ : ∃ e, D[j]? = some e := ⟨_, List.getElem?_eq_getElem (by have := MM.out; omega)⟩
          obtain ⟨g2, Bu, nu, ku, hg2, z0, z1⟩ := K1.out.rd HBI.out he
          cases hg2
          have hne : (d.p == e.p) = false := by simpa using nodup_ne ND.out HD.out he hjt
          have q0 := blk_c XI.out 0
          have lbb := lt_of_block XI.out
          have j0 : (0 : Int) ≤ (j : Int) := by omega
          have j1 : (j : Int) < (k : Int) := by omega
          have HI2 := Kp.mk (HI.out.alloc HI.out.size (.cells #[.int .i64 e.p, .slice Bu nu ku] 48))
          clear he
          go_wp2
          go_roundw
          case rel => exact ⟨j + 1, by omega, by go_num, HI2⟩
          case measure => simp [intOf]; omega
        · obtain rfl : j = k := by omega
          go_wp2
          go_roundw
          case rel => exact ⟨j + 1, by omega, by go_num, HBI⟩
          case measure => simp [intOf]; omega
    · obtain rfl : k = m := by omega
      obtain ⟨wa, hwa⟩ : ∃ wa : World, wa = wr := ⟨_, rfl⟩
      rw [← hwa] at HB ⊢
      clear hwa
      have BXA := Kp.mk ((HB.out.block _ (lt_of_block BX.out)).trans BX.out)
      have bx1 := blk_c BXA.out 1
      go_wp2
      -- who is left
      go_loopw [8, 14, 15, 17, 79, 85] (fun l _ _ _ i _ wr => ∃ (t : Nat) (B : Option Addr) (mm dd : Nat) (L : List Int), t ≤ n1 ∧ i = .int .i64 t ∧ l = .slice B mm dd ∧ mm ≤ t ∧ Kp (L.length = mm ∧ L = (live.take t).filter (fun p => !decide (p ∈ pids D))) ∧ Kp (Own wr 2 eI64 (.slice B mm dd) L) ∧ Kp (Fresh w3 (.slice B mm dd)) ∧ Kp (Below w3.heap.size w3 wr)) (fun _ _ _ _ i _ _ => n1 - (intOf i).toNat)
      case atStart => exact ⟨0, none, 0, 0, [], Nat.zero_le _, rfl, rfl, Nat.le_refl _, ⟨rfl, rfl⟩, ⟨Own.nil _ _ _⟩, ⟨Fresh.nil _ _ _⟩, HB⟩
      case round =>
        clear bx1
        obtain ⟨t, B, mm, dd, L, ht, rfl, rfl, hmt, HL, HO, HF, HBT⟩ := hrel
        by_cases hlt2 : t < n1
        · obtain ⟨x, hx⟩ : ∃ x, live[t]? = some x := ⟨_, List.getElem?_eq_getElem (by have := N.out.2.1; omega)⟩
          obtain ⟨ad, rfl⟩ : ∃ ad, A1 = some ad := by
            cases A1 with
            | none => have h9 := (KS1.out.none rfl).1; rw [h9] at hx; simp at hx
            | some ad => exact ⟨ad, rfl⟩
          obtain ⟨g1, o1, rfl⟩ := KS1.out.addr (by have := N.out.2.1; omega)
          have a0 := (KS1.out.below HBT.out).i64 t x hx
          have t0 : (0 : Int) ≤ (t : Int) := by omega
          have t1 : (t : Int) < (n1 : Int) := by omega
          have HX := Kp.mk hx
          clear hx
          go_wp2
          obtain ⟨WO, hWO⟩ : ∃ WO : World, WO = wr := ⟨_, rfl⟩
          rw [← hWO] at HO HBT a0 ⊢
          clear hWO
          go_loopw [15, 17, 85] (fun gb _ i wi => ∃ (j : Nat), j ≤ k ∧ i = .int .i64 j ∧ gb = .bool (deadB (D.take j) x) ∧ Kp (Below WO.heap.size WO wi)) (fun _ _ i _ => k - (intOf i).toNat)
          case atStart => exact ⟨0, Nat.zero_le _, rfl, rfl, ⟨Below.refl _ _⟩⟩
          case round =>
            obtain ⟨j, hj, rfl, rfl, HI⟩ := hrel
            obtain ⟨wi, hwi⟩ : ∃ wi : World, wi = wr := ⟨_, rfl⟩
            rw [← hwi] at HI ⊢
            clear hwi
            have HBI := Kp.mk (bstep HBT.out HBT.out.size HI.out)
            by_cases hjt : j < k
            · obtain ⟨e, he⟩ : ∃ e, D[j]? = some e := ⟨_, List.getElem?_eq_getElem (by have := MM.out; omega)⟩
              obtain ⟨g2, Bu, nu, ku, rfl, z0, z1⟩ := K1.out.rd HBI.out he
              have hsn := deadB_snoc he x
              have HSN := Kp.mk hsn
              have j0 : (0 : Int) ≤ (j : Int) := by omega
              have j1 : (j : Int) < (k : Int) := by omega
              have HI2 := Kp.mk (HI.out.alloc HI.out.size (.cells #[.int .i64 e.p, .slice Bu nu ku] 48))
              clear he hsn
              cases hgb : deadB (D.take j) x
              · rw [hgb, Bool.false_or] at HSN
                clear hgb
                by_cases h1 : e.p = x
                · have hb1 : (e.p == x) = true := by simpa using h1
                  rw [decide_eq_true h1] at HSN
                  clear h1
                  go_wp2
                  go_roundw
                  case rel => exact ⟨j + 1, by omega, by go_num, by rw [HSN.out], HI2⟩
                  case measure => simp [intOf]; omega
                · have hb1 : (e.p == x) = false := by simpa using h1
                  rw [decide_eq_false h1] at HSN
                  clear h1
                  go_wp2
                  go_roundw
                  case rel => exact ⟨j + 1, by omega, by go_num, by rw [HSN.out], HI2⟩
                  case measure => simp [intOf]; omega
              · rw [hgb, Bool.true_or] at HSN
                clear hgb
                go_wp2
                go_roundw
                case rel => exact ⟨j + 1, by omega, by go_num, by rw [HSN.out], HI2⟩
                case measure => simp [intOf]; omega
            · obtain rfl : j = k := by omega
              have hta : D.take j = D := List.take_of_length_le (by have := MM.out; omega)
              rw [hta, deadB_mem]
              have OI := Kp.mk (HO.out.below HI.out)
              have HFS := Kp.mk (fil_snoc (fun p => !decide (p ∈ pids D)) HX.out)
              clear hta
              cases hgb : decide (x ∈ pids D)
              · have h9 : (!decide (x ∈ pids D)) = true := by rw [hgb]; rfl
                rw [if_pos h9] at HFS
                have HMM : Kp (L.length = mm) := ⟨HL.out.1⟩
                clear hgb h9
                go_wp2_with (at_builtin; refine app1_ev T50 x rfl _ _ rfl OI.out rfl rfl rfl rfl rfl (by have := HMM.out; omega) (by have := HMM.out; omega) ?_; intro A4 n4 c4 w4 d0 d1 d2 d3; have D0 := d0; have D1 := Kp.mk d1; have D2 := Kp.mk d2; have D3 := Kp.mk d3; clear d0 d1 d2 d3)
                obtain rfl : n4 = mm + 1 := by have h1 := D0.out; have := HMM.out; omega
                go_roundw
                case rel =>
                  refine ⟨t + 1, A4, mm + 1, c4, L ++ [x], by omega, by go_num, rfl, by omega, ⟨by rw [List.length_append, HMM.out]; rfl, by rw [HFS.out, ← HL.out.2]⟩, D1, ⟨HF.out.app HBI.out.size D3.out⟩, ⟨chg_below HBI.out D2.out (fun g hg => HF.out g hg) HBI.out.size⟩⟩
                case measure => simp [intOf]; omega
              · have h9 : ¬ (!decide (x ∈ pids D)) = true := by rw [hgb]; decide
                rw [if_neg h9, List.append_nil] at HFS
                clear hgb h9
                go_wp2
                go_roundw
                case rel => exact ⟨t + 1, B, mm, dd, L, by omega, by go_num, rfl, by omega, ⟨HL.out.1, by rw [HFS.out]; exact HL.out.2⟩, OI, HF, HBI⟩
                case measure => simp [intOf]; omega
        · obtain rfl : t = n1 := by omega
          have hL : Kp (L = leftP D live) := ⟨by rw [HL.out.2, List.take_of_length_le (by have := N.out.2.1; omega)]; rfl⟩
          have HMM : Kp (L.length = mm) := ⟨HL.out.1⟩
          obtain ⟨wb, rfl⟩ : ∃ wb : World, wb = wr := ⟨_, rfl⟩
          have HAL := Kp.mk (all_any (K4.out.below HBT.out) LL.out)
          go_wp2_with fail
          refine HAL.out.mono ?_
          rintro e w6 ⟨v6, rfl, o6, f6, b6⟩
          obtain ⟨A6, c6, hv6, _⟩ := o6.shape
          subst hv6
          obtain ⟨lw, hlw⟩ : ∃ l, l = (sn NS).length := ⟨_, rfl⟩
          have LW := Kp.mk hlw
          rw [← hlw] at o6 f6 ⊢
          have O6 := Kp.mk o6
          have B6 := Kp.mk (bstep HBT.out HBT.out.size b6)
          have HO6 := Kp.mk (HO.out.below b6)
          have hlw2 : lw ≤ 1024 := by rw [hlw]; exact K4.out.ok.n1024
          clear o6 f6 b6 hlw
          go_wp2
          -- no bond of the dead
          go_loopw [20, 22, 108, 114] (fun _ _ i _ wr => ∃ (u : Nat), u ≤ k ∧ i = .int .i64 u ∧ Kp (Below w6.heap.size w6 wr)) (fun _ _ i _ _ => k - (intOf i).toNat)
          case atStart => exact ⟨0, Nat.zero_le _, rfl, ⟨Below.refl _ _⟩⟩
          case round =>
            obtain ⟨u, hu, rfl, HB7⟩ := hrel
            by_cases hut : u < k
            · obtain ⟨d, hd⟩ : ∃ d, D[u]? = some d := ⟨_, List.getElem?_eq_getElem (by have := MM.out; omega)⟩
              obtain ⟨g, Bt, nt, kt, rfl, y0, y1⟩ := K1.out.rd (bstep B6.out B6.out.size HB7.out) hd
              have u0 : (0 : Int) ≤ (u : Int) := by omega
              have u1 : (u : Int) < (k : Int) := by omega
              have XX := Kp.mk (blk_new wr (.cells #[.int .i64 d.p, .slice Bt nt kt] 48))
              have HBO := Kp.mk (HB7.out.alloc HB7.out.size (.cells #[.int .i64 d.p, .slice Bt nt kt] 48))
              have HD := Kp.mk hd
              clear hd
              go_wp2
              obtain ⟨bb, hbb⟩ : ∃ bb, bb = wr.heap.size := ⟨_, rfl⟩
              rw [← hbb] at XX ⊢
              obtain ⟨WO, hWO⟩ : ∃ WO, WO = wr.alloc (.cells #[.int .i64 d.p, .slice Bt nt kt] 48) := ⟨_, rfl⟩
              rw [← hWO] at XX HBO ⊢
              clear hbb hWO y0 y1
              go_loopw [22, 114] (fun _ i wi => ∃ (j : Nat), j ≤ lw ∧ i = .int .i64 j ∧ Kp (Below WO.heap.size WO wi)) (fun _ i _ => lw - (intOf i).toNat)
              case atStart => exact ⟨0, Nat.zero_le _, rfl, ⟨Below.refl _ _⟩⟩
              case round =>
                obtain ⟨j, hj, rfl, HI⟩ := hrel
                obtain ⟨wi, hwi⟩ : ∃ wi : World, wi = wr := ⟨_, rfl⟩
                rw [← hwi] at HI ⊢
                clear hwi
                have XI := Kp.mk ((HI.out.block bb (lt_of_block XX.out)).trans XX.out)
                have HBI := Kp.mk (bstep HBO.out HBO.out.size HI.out)
                by_cases hjt : j < lw
                · obtain ⟨b, hb⟩ : ∃ b, (sn NS)[j]? = some b := ⟨_, List.getElem?_eq_getElem (by have := LW.out; omega)⟩
                  obtain ⟨ad, rfl⟩ : ∃ ad, A6 = some ad := by
                    cases A6 with
                    | none => have h9 := ((O6.out.src rfl).none rfl).1; rw [h9] at hb; simp at hb
                    | some ad => exact ⟨ad, rfl⟩
                  obtain ⟨g6, o6, rfl⟩ := (O6.out.src rfl).addr (by have := LW.out; omega)
                  obtain ⟨z0, z1, z2⟩ := ((O6.out.src rfl).below HBI.out).bd j b hb
                  have hng : ¬ (b.a = d.p ∨ b.b = d.p) := fun hor => by
                    have h1 := List.mem_of_getElem? hb
                    rw [HSL.out] at h1
                    have h2 := (List.mem_filter.1 h1).2
                    rw [Bool.not_eq_true', Bool.eq_false_iff] at h2
                    refine h2 (List.any_eq_true.2 ⟨d, List.mem_of_getElem? HD.out, ?_⟩)
                    unfold isOf
                    exact decide_eq_true hor
                  rw [not_or] at hng
                  have hn1' : (b.a == d.p) = false := by simpa using hng.1
                  have hn2' : (b.b == d.p) = false := by simpa using hng.2
                  have q0 := blk_c XI.out 0
                  have lbb := lt_of_block XI.out
                  have j0 : (0 : Int) ≤ (j : Int) := by omega
                  have j1 : (j : Int) < (lw : Int) := by omega
                  have HI2 := Kp.mk (HI.out.alloc HI.out.size (.cells #[.int .i64 b.a, .int .i64 b.b, .int .i64 b.r] 59))
                  clear hb hng
                  go_wp2
                  go_roundw
                  case rel => exact ⟨j + 1, by omega, by go_num, HI2⟩
                  case measure => simp [intOf]; omega
                · obtain rfl : j = lw := by omega
                  go_wp2
                  go_roundw
                  case rel => exact ⟨u + 1, by omega, by go_num, HBI⟩
                  case measure => simp [intOf]; omega
            · obtain rfl : u = k := by omega
              obtain ⟨wc, rfl⟩ : ∃ wc : World, wc = wr := ⟨_, rfl⟩
              have B7 := Kp.mk (bstep B6.out B6.out.size HB7.out)
              have BXC := Kp.mk ((B7.out.block _ (lt_of_block BX.out)).trans BX.out)
              have bx2 := blk_c BXC.out 2
              have hsp := spread_all wc p bm lm rm NS last B A2 none dd c2 0 (leftP D live) traps [] [] (K4.out.below B7.out) LL.out (by have h9 := (HO6.out.below HB7.out).src rfl; rw [hL.out] at h9; exact h9) (KS2.out.below B7.out) ⟨fun ad h => (by cases h), fun _ => ⟨rfl, rfl⟩⟩ ⟨rfl, fun i v d h => (by simp at h)⟩
                (fun w' hc => HT.out.below (chg_below (bstep HB3.out HB3.out.size B7.out) hc (fun g hg => Nat.le_of_lt (HBG.out.fg g hg)) (bstep HB3.out HB3.out.size B7.out).size)) (by rw [← hL.out, HMM.out]; omega) (by have := HM.out.n2; omega) (by simp) (by simp) (fun d hd => by cases hd)
              rw [← hL.out, HMM.out, ← N.out.2.2.1] at hsp
              have HSP2 := Kp.mk hsp
              clear hsp
              go_wp2_with fail
              refine HSP2.out.mono ?_
              rintro e w8 (⟨hw8, dv8, sv8, vs8, us8, rfl, k1, k2, k3, k4, k5⟩ | ⟨hw8, rfl, hb8⟩)
              rotate_left
              · exact absurd (by rw [hL.out]; exact leftP_wrong HW.out) hw8
              rw [sprd_none] at k1 k2 k4
              obtain ⟨D8, cd8, hv8, _⟩ := k1.own.shape
              obtain ⟨S8, cs8, hvs8, _⟩ := k2.own.shape
              have l8 : vs8.length = 0 := k1.len
              have ls8 : us8.length = 0 := k2.len
              rw [l8] at hv8
              rw [ls8] at hvs8
              subst hv8
              subst hvs8
              have hb8 : Below w.heap.size w w8 := chg_below (bstep HB3.out HB3.out.size B7.out) k5 (fun g hg => Nat.le_of_lt (HBG.out.fg g hg)) (bstep HB3.out HB3.out.size B7.out).size
              have B8 := Kp.mk hb8
              have HAL8 := Kp.mk (all_any k4 LL.out)
              have O8 : Kp (Own w8 59 eBd (.slice A6 lw c6) (sn NS)) := ⟨(O6.out.below HB7.out).frame k5 ((O6.out.below HB7.out).off (offG (K4.out.below B7.out) (by decide)))⟩
              clear hw8 k1 k2 k3 k4 k5 l8 ls8 hb8 bx2
              go_wp2_with fail
              refine HAL8.out.mono ?_
              rintro e w9 ⟨v9, rfl, o9, f9, b9⟩
              obtain ⟨A9, c9, hv9, _⟩ := o9.shape
              subst hv9
              have hbo := bonds_any w9 A9 A6 c9 c6 (sn NS) (o9.src rfl) ((O8.out.below b9).src rfl) (by have := LW.out; omega)
              rw [← LW.out] at hbo ⊢
              have HBON := Kp.mk hbo
              have B9 := Kp.mk (bstep B8.out B8.out.size b9)
              clear o9 f9 b9 hbo
              go_wp2_with fail
              refine HBON.out.mono ?_
              rintro e wx ⟨rfl, bx⟩
              have BXX := Kp.mk (bstep B9.out B9.out.size bx)
              have HAW := Kp.mk (awake_any wx (HT.out.below BXX.out))
              clear bx
              go_wp2_with (go_at_call 19; refine HAW.out.mono ?_; rintro e wy ⟨rfl, by_⟩; have BY := Kp.mk (bstep BXX.out BXX.out.size by_); clear by_)
              go_ret
              exact ⟨rfl, BY.out⟩
end Go.Proofs.YtameidoaenoppaaDoor

namespace Go.Proofs.YtameidoaenoppaaDoor
open Go.RowKit

/-- A rising list of the numbers of which P holds. -/
def SetOf (S : List Int) (P : Int → Prop) : Prop := S.Pairwise (· < ·) ∧ ∀ x, x ∈ S ↔ P x
theorem SetOf.uniq {S T : List Int} {P : Int → Prop} (h : SetOf S P) (k : SetOf T P) : S = T := by
  have hn : ∀ {l : List Int}, l.Pairwise (· < ·) → l.Nodup := fun h => h.imp (fun h => by omega)
  have hp : S.Perm T := (List.perm_ext_iff_of_nodup (hn h.1) (hn k.1)).2 fun x => (h.2 x).trans (k.2 x).symm
  exact hp.eq_of_pairwise (fun a b _ _ h1 h2 => by omega) h.1 k.1
theorem SetOf.imp {S : List Int} {P Q : Int → Prop} (h : SetOf S P) (e : ∀ x, P x ↔ Q x) : SetOf S Q := ⟨h.1, fun x => (h.2 x).trans (e x)⟩
theorem SetOf.nodup {S : List Int} {P : Int → Prop} (h : SetOf S P) : S.Nodup := h.1.imp (fun h => by omega)
def Nb (L : List Bd) (x y : Int) : Prop := ∃ b ∈ L, b.r = 0 ∧ (b.a = x ∧ y = b.b ∨ b.b = x ∧ y = b.a)
theorem Nb.symm {L : List Bd} {x y : Int} (h : Nb L x y) : Nb L y x := by
  obtain ⟨b, h1, h2, h3⟩ := h
  refine ⟨b, h1, h2, ?_⟩
  rcases h3 with ⟨h3, h4⟩ | ⟨h3, h4⟩
  · exact .inr ⟨h4.symm, h3.symm⟩
  · exact .inl ⟨h4.symm, h3.symm⟩
theorem fil_snocL (f : Bd → Bool) (L : List Bd) (k : Nat) (h : k < L.length) : (L.take (k + 1)).filter f = if f L[k] = true then (L.take k).filter f ++ [L[k]] else (L.take k).filter f := by
  rw [List.take_succ_eq_append_getElem h, List.filter_append]
  by_cases h1 : f L[k] = true <;> simp [h1]
/-- The three cells of a bond that a row holds. -/
theorem Own.bd {w : World} {g n c : Nat} {L : List Bd} (h : Own w 59 eBd (.slice (some ⟨g, 0, none⟩) n c) L) (k : Nat) (hk : k < L.length) :
    w.cell? ⟨g, k * 3, none⟩ = some (.int .i64 L[k].a) ∧ w.cell? ⟨g, k * 3 + 1, none⟩ = some (.int .i64 L[k].b) ∧ w.cell? ⟨g, k * 3 + 2, none⟩ = some (.int .i64 L[k].r) := by
  refine ⟨?_, ?_, ?_⟩
  · have h1 := h.elem k 0 hk (by decide); simpa [eBd] using h1
  · have h1 := h.elem k 1 hk (by decide); simpa [eBd] using h1
  · have h1 := h.elem k 2 hk (by decide); simpa [eBd] using h1
set_option maxRecDepth 100000 in
set_option maxHeartbeats 4000000 in
theorem dof_any (w : World) (q : Nat) (lv : Value) (L : List Bd) (pid : Int) (h : IsD w q lv L) (hn : L.length ≤ 1000000) :
    Calls Tryd.prog 70 #[.pointer (some ⟨q, 0, none⟩), .int .i64 pid] w (CollPost w (L.filter (isOf pid))) := by
  obtain ⟨A, c, hv, _, _, hs0, hs1⟩ := h.own.shape
  subst hv
  have q0 := h.c0
  have qlt := lt_of_block h.blk
  have HO := Kp.mk h.own
  have HS0 := Kp.mk hs0
  have HS1 := Kp.mk hs1
  clear h hs0 hs1
  go_enter Tryd.func70, Tryd.ntmps70
  go_wp2_with fail
  go_loopw [5, 7, 13] (fun v _ iv wr => ∃ k : Nat, k ≤ L.length ∧ iv = .int .i64 k ∧ Kp (Own wr 59 eBd v ((L.take k).filter (isOf pid))) ∧ Kp (Fresh w v) ∧ Kp (Below w.heap.size w wr)) (fun _ _ iv _ => L.length - (intOf iv).toNat)
  case atStart => exact ⟨0, Nat.zero_le _, rfl, ⟨Own.nil _ _ _⟩, ⟨Fresh.nil _ _ _⟩, ⟨Below.refl _ _⟩⟩
  case round =>
    obtain ⟨k, hk, rfl, HV, HF, HB⟩ := hrel
    by_cases hlt : k < L.length
    · obtain ⟨g, rfl⟩ : ∃ g, A = some ⟨g, 0, none⟩ := by
        cases A with
        | none => have h1 := (HS0.out rfl).1; rw [h1] at hlt; simp at hlt
        | some y => obtain ⟨g, rfl⟩ := HS1.out y rfl; exact ⟨g, rfl⟩
      obtain ⟨a0, a1, a2⟩ := (HO.out.below HB.out).bd k hlt
      have hsn := fil_snocL (isOf pid) L k hlt
      obtain ⟨x, hx⟩ : ∃ x, x = L[k] := ⟨_, rfl⟩
      rw [← hx] at a0 a1 a2 hsn
      have k0 : (0 : Int) ≤ (k : Int) := by omega
      have k1 : (k : Int) < (L.length : Int) := by omega
      obtain ⟨A2, c2, hv2, _⟩ := HV.out.shape
      subst hv2
      obtain ⟨tl, htl⟩ : ∃ tl, tl = (L.take k).filter (isOf pid) := ⟨_, rfl⟩
      have htn : tl.length ≤ 1000000 := by
        have := List.length_filter_le (isOf pid) (L.take k)
        rw [← htl, List.length_take] at this
        omega
      rw [← htl] at HV HF hsn ⊢
      have hbw := HB.out.size
      have hov := HV.out.alloc (.cells #[.int .i64 x.a, .int .i64 x.b, .int .i64 x.r] 59)
      have HB3 : Kp (∀ o, Below w.heap.size w (wr.alloc o)) := ⟨fun o => HB.out.alloc hbw _⟩
      have hcA : (x.a == pid) = true ∨ (x.a == pid) = false := by by_cases e : x.a = pid <;> simp [e]
      have hcB : (x.b == pid) = true ∨ (x.b == pid) = false := by by_cases e : x.b = pid <;> simp [e]
      have HI : Kp (isOf pid x = (x.a == pid || x.b == pid)) := ⟨by unfold isOf; rw [Bool.eq_iff_iff]; simp⟩
      clear hx htl
      have yes : isOf pid x = true → Kp ((L.take (k + 1)).filter (isOf pid) = tl ++ [x]) := fun e => ⟨by rw [hsn, if_pos e]⟩
      have nay : isOf pid x = false → Kp ((L.take (k + 1)).filter (isOf pid) = tl) := fun e => ⟨by rw [hsn, if_neg (by rw [e]; decide)]⟩
      have YES := Kp.mk yes
      have NAY := Kp.mk nay
      clear hsn yes nay
      rcases hcA with hA | hA
      · have HE := YES.out (by rw [HI.out, hA]; rfl)
        go_wp2_with (at_builtin; refine app1_ev T27 x rfl _ _ rfl hov rfl rfl rfl (by simp) rfl (by omega) (by omega) ?_; intro A' n' c' w1 d0 d1 d2 d3; have D1 := Kp.mk d1; have D2 := Kp.mk d2; have D3 := Kp.mk d3; clear d0 d1 d2 d3)
        go_roundw
        case rel => exact ⟨k + 1, by omega, by go_num, ⟨by rw [HE.out]; exact D1.out⟩, ⟨HF.out.app (by simp; omega) D3.out⟩, ⟨chg_below (HB3.out _) D2.out (fun g' hg => HF.out g' hg) (by simp; omega)⟩⟩
        case measure => simp [intOf]; omega
      · rcases hcB with hBb | hBb
        · have HE := YES.out (by rw [HI.out, hA, hBb]; rfl)
          go_wp2_with (at_builtin; refine app1_ev T27 x rfl _ _ rfl hov rfl rfl rfl (by simp) rfl (by omega) (by omega) ?_; intro A' n' c' w1 d0 d1 d2 d3; have D1 := Kp.mk d1; have D2 := Kp.mk d2; have D3 := Kp.mk d3; clear d0 d1 d2 d3)
          go_roundw
          case rel => exact ⟨k + 1, by omega, by go_num, ⟨by rw [HE.out]; exact D1.out⟩, ⟨HF.out.app (by simp; omega) D3.out⟩, ⟨chg_below (HB3.out _) D2.out (fun g' hg => HF.out g' hg) (by simp; omega)⟩⟩
          case measure => simp [intOf]; omega
        · have HE := NAY.out (by rw [HI.out, hA, hBb]; rfl)
          go_wp2
          go_roundw
          case rel => exact ⟨k + 1, by omega, by go_num, ⟨by rw [HE.out]; exact hov⟩, HF, ⟨HB3.out _⟩⟩
          case measure => simp [intOf]; omega
    · obtain rfl : k = L.length := by omega
      have HV' := HV.out
      rw [List.take_length] at HV'
      have HVV := Kp.mk HV'
      clear HV'
      go_wp2
      go_ret
      exact ⟨_, rfl, HVV.out, HF.out, HB.out⟩
/-! ### set -/
theorem ins_set {S : List Int} {P : Int → Prop} {n : Int} (h : SetOf S P) (k : Nat) (hk : k ≤ S.length) (hn : n ∉ S) (hl : ∀ j (hj : j < S.length), k ≤ j → n < S[j]) (hr : ∀ j (hj : j < S.length), j < k → S[j] < n) :
    SetOf (S.take k ++ n :: S.drop k) (fun x => P x ∨ x = n) := by
  have e : S = S.take k ++ S.drop k := (List.take_append_drop k S).symm
  have hs := h.1
  rw [e] at hs
  obtain ⟨h1, h2, h3⟩ := List.pairwise_append.1 hs
  have lo : ∀ a ∈ S.take k, a < n := by
    intro a ha
    obtain ⟨j, hj, rfl⟩ := List.mem_iff_getElem.1 ha
    rw [List.length_take] at hj
    rw [List.getElem_take]
    exact hr j (by omega) (by omega)
  have hi : ∀ a ∈ S.drop k, n < a := by
    intro a ha
    obtain ⟨j, hj, rfl⟩ := List.mem_iff_getElem.1 ha
    rw [List.length_drop] at hj
    rw [List.getElem_drop]
    exact hl (k + j) (by omega) (by omega)
  refine ⟨?_, fun x => ?_⟩
  · refine List.pairwise_append.2 ⟨h1, List.pairwise_cons.2 ⟨hi, h2⟩, fun a ha b hb => ?_⟩
    rcases List.mem_cons.1 hb with rfl | hb
    · exact lo a ha
    · exact h3 a ha b hb
  · have := h.2 x
    rw [e] at this
    show _ ↔ (P x ∨ x = n)
    rw [← this]
    simp only [List.mem_append, List.mem_cons]
    constructor
    · rintro (h | h | h)
      · exact .inl (.inl h)
      · exact .inr h
      · exact .inl (.inr h)
    · rintro ((h | h) | h)
      · exact .inl h
      · exact .inr (.inr h)
      · exact .inr (.inl h)
theorem shift_set {S : List Int} {k : Nat} (hk : k < S.length) (y : Int) : (S.take (k + 1) ++ y :: S.drop (k + 1)).set (k + 1) S[k] = S.take k ++ S[k] :: S.drop k := by
  have hl : (S.take (k + 1)).length = k + 1 := by rw [List.length_take]; omega
  rw [List.set_append_right _ _ (by rw [hl]; exact Nat.le_refl _), hl, Nat.sub_self, List.set_cons_zero, List.take_succ_eq_append_getElem hk, List.append_assoc, List.drop_eq_getElem_cons hk]
  rfl
theorem put_set {S : List Int} {k : Nat} (hk : k ≤ S.length) (y n : Int) : (S.take k ++ y :: S.drop k).set k n = S.take k ++ n :: S.drop k := by
  have hl : (S.take k).length = k := by rw [List.length_take]; omega
  rw [List.set_append_right _ _ (by rw [hl]; exact Nat.le_refl _), hl, Nat.sub_self, List.set_cons_zero]
def SetPost (w : World) (l : List Int) (e : Ending) (w' : World) : Prop := ∃ v S, e = .returned v ∧ Own w' 2 eI64 v S ∧ Fresh w v ∧ Below w.heap.size w w' ∧ SetOf S (· ∈ l)
set_option maxRecDepth 100000 in
set_option maxHeartbeats 8000000 in
theorem set_any (w : World) (A : Option Addr) (c : Nat) (l : List Int) (N : Nat) (hN : N = l.length) (hs : Src w eI64 A c l) (hn : N ≤ 1000000) :
    Calls Tryd.prog 71 #[.slice A N c] w (SetPost w l) := by
  have HSrc := Kp.mk hs
  have HN := Kp.mk hN
  clear hs hN
  go_enter Tryd.func71, Tryd.ntmps71
  go_wp2_with fail
  go_loopw [3, 5, 6, 8, 9, 12] (fun v _ _ _ _ iv wr => ∃ (k : Nat) (S : List Int), k ≤ N ∧ iv = .int .i64 k ∧ Kp (SetOf S (· ∈ l.take k)) ∧ Kp (S.length ≤ k) ∧ Kp (Own wr 2 eI64 v S) ∧ Kp (Fresh w v) ∧ Kp (Below w.heap.size w wr)) (fun _ _ _ _ _ iv _ => N - (intOf iv).toNat)
  case atStart => exact ⟨0, [], Nat.zero_le _, rfl, ⟨⟨List.Pairwise.nil, fun x => by simp⟩⟩, ⟨by simp⟩, ⟨Own.nil _ _ _⟩, ⟨Fresh.nil _ _ _⟩, ⟨Below.refl _ _⟩⟩
  case round =>
    obtain ⟨k, S, hk, rfl, HSS, HSl, HV, HF, HB⟩ := hrel
    by_cases hlt : k < N
    · have hkl : k < l.length := by rw [← HN.out]; exact hlt
      obtain ⟨ad, rfl⟩ : ∃ ad, A = some ad := by
        cases A with
        | none => have h1 := (HSrc.out.none rfl).1; rw [h1] at hkl; simp at hkl
        | some y => exact ⟨y, rfl⟩
      obtain ⟨g, o, rfl⟩ := HSrc.out.addr (by omega)
      obtain ⟨n, hnn⟩ : ∃ n, n = l[k] := ⟨_, rfl⟩
      have hcell : wr.cell? ⟨g, o + k, none⟩ = some (.int .i64 n) := by
        have h1 := (HSrc.out.below HB.out).elem k 0 hkl (by decide)
        rw [hnn]; simpa [eI64] using h1
      have htk : Kp (l.take (k + 1) = l.take k ++ [n]) := ⟨by rw [List.take_succ_eq_append_getElem hkl, hnn]⟩
      have k0 : (0 : Int) ≤ (k : Int) := by omega
      have k1 : (k : Int) < (N : Int) := by omega
      obtain ⟨A2, c2, hv2, hc2, hm2, hs0, hs1⟩ := HV.out.shape
      subst hv2
      have HS0 := Kp.mk hs0
      have HS1 := Kp.mk hs1
      have hSl : S.length ≤ 1000000 := by have := HSl.out; omega
      obtain ⟨m, hm⟩ : ∃ m, m = S.length := ⟨_, rfl⟩
      have HM := Kp.mk hm
      rw [← hm] at hSl hc2 HV HF ⊢
      clear hnn hs0 hs1 hm hkl
      obtain ⟨wo, rfl⟩ : ∃ wo : World, wo = wr := ⟨_, rfl⟩
      go_wp2_with fail
      go_loop [6, 8, 18] (fun bv _ jv => ∃ (j : Nat), j ≤ m ∧ jv = .int .i64 j ∧ bv = .bool (decide (n ∈ S.take j))) (fun _ _ jv => m - (intOf jv).toNat)
      case atStart => exact ⟨0, Nat.zero_le _, rfl, by simp⟩
      case round =>
        obtain ⟨j, hj, rfl, rfl⟩ := hrel
        by_cases hlt2 : j < m
        · have hjS : j < S.length := by rw [← HM.out]; exact hlt2
          obtain ⟨g2, rfl⟩ : ∃ g, A2 = some ⟨g, 0, none⟩ := by
            cases A2 with
            | none => have h1 := (HS0.out rfl).1; rw [h1] at hjS; simp at hjS
            | some y => obtain ⟨g, rfl⟩ := HS1.out y rfl; exact ⟨g, rfl⟩
          obtain ⟨z, hz⟩ : ∃ z, z = S[j] := ⟨_, rfl⟩
          have hcz : wo.cell? ⟨g2, j, none⟩ = some (.int .i64 z) := by
            have h1 := HV.out.elem j 0 hjS (by decide)
            rw [hz]; simpa [eI64] using h1
          have j0 : (0 : Int) ≤ (j : Int) := by omega
          have j1 : (j : Int) < (m : Int) := by omega
          have hst : decide (n ∈ S.take (j + 1)) = (decide (n ∈ S.take j) || z == n) := by
            rw [List.take_succ_eq_append_getElem hjS, ← hz, Bool.eq_iff_iff]
            simp
            constructor
            · rintro (h | h); exact .inl h; exact .inr h.symm
            · rintro (h | h); exact .inl h; exact .inr h.symm
          obtain ⟨b, hb⟩ : ∃ b, b = decide (n ∈ S.take j) := ⟨_, rfl⟩
          rw [← hb] at hst ⊢
          have HST := Kp.mk hst
          clear hz hst hb
          cases b
          · by_cases hzn : z = n
            · have hd : (z == n) = true := by simpa using hzn
              go_wp2
              go_round
              case rel => exact ⟨j + 1, by omega, by go_num, by rw [HST.out, hd]; rfl⟩
              case measure => simp [intOf]; omega
            · have hd : (z == n) = false := by simpa using hzn
              go_wp2
              go_round
              case rel => exact ⟨j + 1, by omega, by go_num, by rw [HST.out, hd]; rfl⟩
              case measure => simp [intOf]; omega
          · go_wp2
            go_round
            case rel => exact ⟨j + 1, by omega, by go_num, by rw [HST.out]; rfl⟩
            case measure => simp [intOf]; omega
        · obtain rfl : j = m := by omega
          have hall : S.take j = S := List.take_of_length_le (by rw [HM.out]; exact Nat.le_refl _)
          rw [hall]
          clear hall
          by_cases hmem : n ∈ S
          · rw [decide_eq_true hmem]
            have HME := Kp.mk hmem
            clear hmem
            go_wp2_with fail
            go_roundw
            case rel =>
              refine ⟨k + 1, S, by omega, by go_num, ⟨HSS.out.imp fun x => ?_⟩, ⟨by have := HSl.out; omega⟩, HV, HF, HB⟩
              rw [htk.out]
              simp only [List.mem_append, List.mem_singleton]
              exact ⟨.inl, fun h => h.elim id (fun h => by rw [h]; exact (HSS.out.2 n).1 HME.out)⟩
            case measure => simp [intOf]; omega
          · rw [decide_eq_false hmem]
            have HME := Kp.mk hmem
            clear hmem
            have hov := HV.out
            go_wp2_with (at_builtin; refine app1_ev T50 n rfl _ _ rfl hov rfl rfl rfl (by simp) rfl (by rw [← HM.out]; omega) (by rw [← HM.out]; omega) ?_; intro A' n' c' w1 d0 d1 d2 d3; have D0 := d0; have D1 := Kp.mk d1; have D2 := Kp.mk d2; have D3 := Kp.mk d3; clear d0 d1 d2 d3)
            obtain rfl : n' = j + 1 := by have := D0.out; rw [← HM.out] at this; exact this
            obtain ⟨g3, rfl⟩ : ∃ g, A' = some ⟨g, 0, none⟩ := by
              obtain ⟨A9, c9, hv9, _, _, h0, h1⟩ := D1.out.shape
              injection hv9 with e1 _ _
              subst e1
              cases A' with
              | none => have := (h0 rfl).1; simp at this
              | some y => obtain ⟨g, rfl⟩ := h1 y rfl; exact ⟨g, rfl⟩
            have HF1 : Kp (Fresh w (.slice (some ⟨g3, 0, none⟩) (j + 1) c')) := ⟨HF.out.app HB.out.size D3.out⟩
            have HB1 : Kp (Below w.heap.size w w1) := ⟨chg_below HB.out D2.out (fun g' hg => HF.out g' hg) HB.out.size⟩
            have hg3 : w.heap.size ≤ g3 := HF1.out g3 rfl
            clear D0 hov
            go_loopw [9] (fun kv wi => ∃ (i : Nat) (y : Int), i ≤ j ∧ kv = .int .i64 i ∧ Kp (Own wi 2 eI64 (.slice (some ⟨g3, 0, none⟩) (j + 1) c') (S.take i ++ y :: S.drop i)) ∧ Kp (∀ z (hz : z < S.length), i ≤ z → n < S[z]) ∧ Kp (Below w.heap.size w wi)) (fun kv _ => (intOf kv).toNat)
            case atStart => exact ⟨j, n, Nat.le_refl _, rfl, ⟨by rw [List.take_of_length_le (by rw [HM.out]; exact Nat.le_refl _), List.drop_eq_nil_of_le (by rw [HM.out]; exact Nat.le_refl _)]; exact D1.out⟩, ⟨fun z hz h => by have := HM.out; omega⟩, HB1⟩
            case round =>
              obtain ⟨i, y, hi, rfl, HR, HGt, HBi⟩ := hrel
              have hRl : (S.take i ++ y :: S.drop i).length = j + 1 := by have := HM.out; simp; omega
              have hRs : i < (S.take i ++ y :: S.drop i).length := by omega
              have hfz := HR.out.frozen i
              have hcy : wr.cell? ⟨g3, i, none⟩ = some (.int .i64 ((S.take i ++ y :: S.drop i)[i])) := by
                have h1 := HR.out.elem i 0 hRs (by decide); simpa [eI64] using h1
              obtain ⟨yy, hyy⟩ : ∃ yy, yy = (S.take i ++ y :: S.drop i)[i] := ⟨_, rfl⟩
              rw [← hyy] at hcy
              have hglt : g3 < wr.heap.size := HR.out.lt rfl
              have HRL := Kp.mk hRl
              clear hyy hRl hRs
              by_cases hi0 : 0 < i
              · obtain ⟨i', rfl⟩ : ∃ i', i = i' + 1 := ⟨i - 1, by omega⟩
                have hiS : i' < S.length := by have := HM.out; omega
                obtain ⟨z, hz⟩ : ∃ z, z = S[i'] := ⟨_, rfl⟩
                have hcz : wr.cell? ⟨g3, i', none⟩ = some (.int .i64 z) := by
                  have h1 := HR.out.elem i' 0 (by rw [HRL.out]; omega) (by decide)
                  have h2 : (S.take (i' + 1) ++ y :: S.drop (i' + 1))[i']'(by rw [HRL.out]; omega) = z := by
                    rw [hz, List.getElem_append_left (by rw [List.length_take]; have := HM.out; omega), List.getElem_take]
                  rw [h2] at h1
                  simpa [eI64] using h1
                have i1 : (0 : Int) ≤ (i' : Int) := by omega
                have i2 : (i' : Int) < (j : Int) + 1 := by omega
                have i3 : (i' : Int) + 1 < (j : Int) + 1 := by omega
                have HZ := Kp.mk hz
                clear hz hi0
                by_cases hzn : n < z
                · have hzd : decide (z > n) = true := by simpa using hzn
                  go_wp2_with fail
                  go_roundw
                  case rel =>
                    refine ⟨i', z, by omega, by first | rfl | (simp; omega), ⟨?_⟩, ⟨fun x hx h => ?_⟩, ⟨chg_below HBi.out (chg_cell _ g3 (i' + 1) (.int .i64 z)) (fun g' hg => by omega) HBi.out.size⟩⟩
                    · have h1 := HR.out.set HRL.out.symm (i' + 1) 0 z (.int .i64 z) (by rw [HRL.out]; omega) (by decide) rfl
                      rw [HZ.out, shift_set hiS] at h1
                      have e : (i' + 1) * eI64.k + 0 = i' + 1 := Nat.mul_one _
                      rw [e] at h1
                      rw [HZ.out]
                      exact h1
                    · by_cases hxi : x = i'
                      · subst hxi; rw [← HZ.out]; exact hzn
                      · exact HGt.out x hx (by omega)
                  case measure => simp [intOf]
                · have hzd : decide (z > n) = false := by simp; omega
                  go_wp2_with fail
                  go_roundw
                  case rel =>
                    refine ⟨k + 1, S.take (i' + 1) ++ n :: S.drop (i' + 1), by omega, by go_num, ⟨?_⟩, ⟨?_⟩, ⟨?_⟩, HF1, ⟨chg_below HBi.out (chg_cell _ g3 (i' + 1) (.int .i64 n)) (fun g' hg => by omega) HBi.out.size⟩⟩
                    · refine (ins_set HSS.out (i' + 1) (by have := HM.out; omega) HME.out (fun z hz h => HGt.out z hz h) (fun x hx h => by have h2 := List.pairwise_iff_getElem.1 HSS.out.1; have h3 : S[i'] < n := (by have h4 : S[i'] ≠ n := fun e => HME.out (e ▸ List.getElem_mem hiS); have h5 := HZ.out; omega); by_cases hxi : x = i'; subst hxi; exact h3; have h6 := h2 x i' hx hiS (by omega); omega)).imp fun x => ?_
                      rw [htk.out]
                      simp only [List.mem_append, List.mem_singleton]
                    · have h1 := HSl.out; have h2 := HM.out; simp; omega
                    · have h1 := HR.out.set HRL.out.symm (i' + 1) 0 n (.int .i64 n) (by rw [HRL.out]; omega) (by decide) rfl
                      rw [put_set (by have := HM.out; omega)] at h1
                      have e : (i' + 1) * eI64.k + 0 = i' + 1 := Nat.mul_one _
                      rw [e] at h1
                      exact h1
                  case measure => simp [intOf]; omega
              · obtain rfl : i = 0 := by omega
                go_wp2_with fail
                go_roundw
                case rel =>
                  refine ⟨k + 1, S.take 0 ++ n :: S.drop 0, by omega, by go_num, ⟨?_⟩, ⟨?_⟩, ⟨?_⟩, HF1, ⟨chg_below HBi.out (chg_cell _ g3 (0) (.int .i64 n)) (fun g' hg => by omega) HBi.out.size⟩⟩
                  · refine (ins_set HSS.out (0) (by have := HM.out; omega) HME.out (fun z hz h => HGt.out z hz h) (fun x hx h => by omega)).imp fun x => ?_
                    rw [htk.out]
                    simp only [List.mem_append, List.mem_singleton]
                  · have h1 := HSl.out; have h2 := HM.out; simp; omega
                  · have h1 := HR.out.set HRL.out.symm (0) 0 n (.int .i64 n) (by rw [HRL.out]; omega) (by decide) rfl
                    rw [put_set (by have := HM.out; omega)] at h1
                    have e : (0) * eI64.k + 0 = 0 := Nat.mul_one _
                    rw [e] at h1
                    exact h1
                case measure => simp [intOf]; omega
    · obtain rfl : k = N := by omega
      have hall : l.take k = l := List.take_of_length_le (by rw [HN.out]; exact Nat.le_refl _)
      have HSS' := HSS.out
      rw [hall] at HSS'
      have HSV := Kp.mk HSS'
      clear HSS' hall
      go_wp2
      go_ret
      exact ⟨_, S, rfl, HV.out, HF.out, HB.out, HSV.out⟩
def nbD1 (pid : Int) (x : Bd) : List Int := if x.r = 0 then [x.a + x.b - pid] else []
def nbD (pid : Int) (l : List Bd) : List Int := l.flatMap (nbD1 pid)
theorem nbD_snoc (pid : Int) (l : List Bd) (k : Nat) (h : k < l.length) : nbD pid (l.take (k + 1)) = nbD pid (l.take k) ++ nbD1 pid l[k] := by
  unfold nbD
  rw [List.take_succ_eq_append_getElem h, List.flatMap_append, List.flatMap_cons, List.flatMap_nil, List.append_nil]
theorem nbD_len (pid : Int) (l : List Bd) : (nbD pid l).length ≤ l.length := by
  induction l with
  | nil => simp [nbD]
  | cons x l ih =>
    have : nbD pid (x :: l) = nbD1 pid x ++ nbD pid l := by simp [nbD]
    rw [this, List.length_append]
    have : (nbD1 pid x).length ≤ 1 := by unfold nbD1; split <;> simp
    simp
    omega
theorem mem_nbD (L : List Bd) (pid y : Int) (_hG : GoodL L) : y ∈ nbD pid (L.filter (isOf pid)) ↔ Nb L pid y := by
  unfold nbD Nb
  rw [List.mem_flatMap]
  constructor
  · rintro ⟨b, hb, hy⟩
    obtain ⟨h1, h2⟩ := List.mem_filter.1 hb
    unfold nbD1 at hy
    split at hy
    · rename_i h0
      have h4 : b.a = pid ∨ b.b = pid := of_decide_eq_true h2
      have h5 : y = b.a + b.b - pid := by simpa using hy
      exact ⟨b, h1, h0, by rcases h4 with h | h; exact .inl ⟨h, by omega⟩; exact .inr ⟨h, by omega⟩⟩
    · simp at hy
  · rintro ⟨b, hb, h0, h⟩
    refine ⟨b, List.mem_filter.2 ⟨hb, decide_eq_true (by rcases h with h | h; exact .inl h.1; exact .inr h.1)⟩, ?_⟩
    unfold nbD1
    rw [if_pos h0]
    rcases h with ⟨h1, h2⟩ | ⟨h1, h2⟩ <;> (simp; omega)
def DPeersPost (w : World) (L : List Bd) (pid : Int) (e : Ending) (w' : World) : Prop := ∃ v S, e = .returned v ∧ Own w' 2 eI64 v S ∧ Fresh w v ∧ Below w.heap.size w w' ∧ SetOf S (Nb L pid)
set_option maxRecDepth 100000 in
set_option maxHeartbeats 4000000 in
theorem dpeers_any (w : World) (q : Nat) (lv : Value) (L : List Bd) (pid : Int) (h : IsD w q lv L) (hn : L.length ≤ 1000000) (hG : GoodL L) :
    Calls Tryd.prog 49 #[.pointer (some ⟨q, 0, none⟩), .int .i64 pid] w (DPeersPost w L pid) := by
  have HD := Kp.mk h
  have HG := Kp.mk hG
  clear h hG
  go_enter Tryd.func49, Tryd.ntmps49
  go_wp2_with (go_at_call 70; refine (dof_any _ q lv L pid HD.out hn).mono ?_; rintro e w1 ⟨v, rfl, ho, hf, hb⟩; obtain ⟨A, c, hv, hcc, hmc, hs0, hs1⟩ := ho.shape; subst hv)
  obtain ⟨xs, hxs⟩ : ∃ xs, xs = L.filter (isOf pid) := ⟨_, rfl⟩
  rw [← hxs] at ho hf hcc hs0 ⊢
  have hxl : xs.length ≤ 1000000 := by have := List.length_filter_le (isOf pid) L; rw [← hxs] at this; omega
  obtain ⟨m, hm⟩ : ∃ m, m = xs.length := ⟨_, rfl⟩
  rw [← hm] at ho hf hxl ⊢
  have HX := Kp.mk hxs
  have HM := Kp.mk hm
  have HO := Kp.mk ho
  have HF1 := Kp.mk hf
  have HB1 := Kp.mk hb
  have HS0 := Kp.mk hs0
  have HS1 := Kp.mk hs1
  have hw1 := hb.size
  clear hxs hm ho hf hb hs0 hs1 hcc hmc
  go_loopw [5, 7, 12] (fun v _ iv wr => ∃ k : Nat, k ≤ m ∧ iv = .int .i64 k ∧ Kp (Own wr 2 eI64 v (nbD pid (xs.take k))) ∧ Kp (Fresh w1 v) ∧ Kp (Below w1.heap.size w1 wr)) (fun _ _ iv _ => m - (intOf iv).toNat)
  case atStart => exact ⟨0, Nat.zero_le _, rfl, ⟨Own.nil _ _ _⟩, ⟨Fresh.nil _ _ _⟩, ⟨Below.refl _ _⟩⟩
  case round =>
    obtain ⟨k, hk, rfl, HV, HF, HB⟩ := hrel
    by_cases hlt : k < m
    · have hkx : k < xs.length := by rw [← HM.out]; exact hlt
      obtain ⟨g, rfl⟩ : ∃ g, A = some ⟨g, 0, none⟩ := by
        cases A with
        | none => have h1 := (HS0.out rfl).1; rw [h1] at hkx; simp at hkx
        | some y => obtain ⟨g, rfl⟩ := HS1.out y rfl; exact ⟨g, rfl⟩
      obtain ⟨a0, a1, a2⟩ := (HO.out.below HB.out).bd k hkx
      have hsn := nbD_snoc pid xs k hkx
      obtain ⟨x, hx⟩ : ∃ x, x = xs[k] := ⟨_, rfl⟩
      rw [← hx] at a0 a1 a2 hsn
      have hmem : x ∈ L.filter (isOf pid) := by rw [← HX.out, hx]; exact List.getElem_mem hkx
      have hgd := HG.out x (List.mem_filter.1 hmem).1
      have hab : x.a = pid ∨ x.b = pid := of_decide_eq_true (List.mem_filter.1 hmem).2
      have b1 : 1 ≤ x.a := hgd.1.1
      have b2 : x.a ≤ 1099511627776 := hgd.1.2
      have b3 : 1 ≤ x.b := hgd.2.1.1
      have b4 : x.b ≤ 1099511627776 := hgd.2.1.2
      have b5 : 1 ≤ pid := by omega
      have b6 : pid ≤ 1099511627776 := by omega
      have k0 : (0 : Int) ≤ (k : Int) := by omega
      have k1 : (k : Int) < (m : Int) := by omega
      obtain ⟨A2, c2, hv2, _⟩ := HV.out.shape
      subst hv2
      obtain ⟨tl, htl⟩ : ∃ tl, tl = nbD pid (xs.take k) := ⟨_, rfl⟩
      have htn : tl.length ≤ 1000000 := by
        have := nbD_len pid (xs.take k)
        rw [← htl, List.length_take] at this
        omega
      rw [← htl] at HV HF hsn ⊢
      have hbw := HB.out.size
      have hov := HV.out.alloc (.cells #[.int .i64 x.a, .int .i64 x.b, .int .i64 x.r] 59)
      have HB3 : Kp (∀ o, Below w1.heap.size w1 (wr.alloc o)) := ⟨fun o => HB.out.alloc hbw _⟩
      by_cases hr : x.r = 0
      · have HE : Kp (nbD pid (xs.take (k + 1)) = tl ++ [x.a + x.b - pid]) := ⟨by rw [hsn]; unfold nbD1; rw [if_pos hr]⟩
        have hd : (x.r == 0) = true := by simpa using hr
        clear hx htl hmem hgd hab hr hsn
        go_wp2_with (at_builtin; refine app1_ev T50 (x.a + x.b - pid) rfl _ _ rfl hov rfl rfl rfl (by simp) rfl (by omega) (by omega) ?_; intro A' n' c' w3 d0 d1 d2 d3; have D1 := Kp.mk d1; have D2 := Kp.mk d2; have D3 := Kp.mk d3; clear d0 d1 d2 d3)
        go_roundw
        case rel => exact ⟨k + 1, by omega, by go_num, ⟨by rw [HE.out]; exact D1.out⟩, ⟨HF.out.app (by simp; omega) D3.out⟩, ⟨chg_below (HB3.out _) D2.out (fun g' hg => HF.out g' hg) (by simp; omega)⟩⟩
        case measure => simp [intOf]; omega
      · have HE : Kp (nbD pid (xs.take (k + 1)) = tl) := ⟨by rw [hsn]; unfold nbD1; rw [if_neg hr]; simp⟩
        have hd : (x.r == 0) = false := by simpa using hr
        clear hx htl hmem hgd hab hr hsn
        go_wp2
        go_roundw
        case rel => exact ⟨k + 1, by omega, by go_num, ⟨by rw [HE.out]; exact hov⟩, HF, ⟨HB3.out _⟩⟩
        case measure => simp [intOf]; omega
    · obtain rfl : k = m := by omega
      have hall : xs.take k = xs := List.take_of_length_le (by rw [HM.out]; exact Nat.le_refl _)
      rw [hall] at HV
      obtain ⟨A2, c2, hv2, _⟩ := HV.out.shape
      subst hv2
      have hln := nbD_len pid xs
      have HMx := HM.out
      clear hall
      go_wp2_with (go_at_call 71; refine (set_any _ A2 c2 (nbD pid xs) _ rfl (HV.out.src rfl) (by omega)).mono ?_; rintro e w5 ⟨v5, S, rfl, h5, hf5, hb5, hS⟩; have H5 := Kp.mk h5; have HF5 := Kp.mk hf5; have HB5 := Kp.mk hb5; have HS5 := Kp.mk hS; clear h5 hf5 hb5 hS)
      go_ret
      have hb9 := bstep HB1.out HB1.out.size HB.out
      refine ⟨_, S, rfl, H5.out, HF5.out.up hb9.size, bstep hb9 hb9.size HB5.out, HS5.out.imp fun y => ?_⟩
      rw [HX.out]
      exact mem_nbD L pid y HG.out
/-! ### End -/
end Go.Proofs.YtameidoaenoppaaDoor

namespace Go.Proofs.YtameidoaenoppaaDoor
open Go.RowKit

inductive Rq (L : List Bd) (live traps : List Int) (ds : List Dth) : Int → Prop
  | base {d : Dth} : d ∈ ds → isA d.r normalS = false → Rq L live traps ds d.p
  | step {x y : Int} : Rq L live traps ds x → Nb L x y → y ∈ live → y ∉ traps → y ∉ pids ds → Rq L live traps ds y
theorem mem_pids {D : List Dth} {d : Dth} (h : d ∈ D) : d.p ∈ pids D := List.mem_map.2 ⟨d, h, rfl⟩
theorem alive_not {live : List Int} {ds : List Dth} {q : Int} (h : aliveB live ds q = true) : q ∉ pids ds := by
  unfold aliveB at h
  rw [Bool.and_eq_true, Bool.not_eq_true'] at h
  exact of_decide_eq_false h.2
theorem alive_no {live : List Int} {ds : List Dth} {q : Int} (h : aliveB live ds q = false) (hl : q ∈ live) : q ∈ pids ds := by
  unfold aliveB at h
  rw [decide_eq_true hl, Bool.true_and, Bool.not_eq_false'] at h
  exact of_decide_eq_true h
theorem pre_pids {A B : List Dth} (h : A <+: B) {x : Int} (hx : x ∈ pids A) : x ∈ pids B := by
  obtain ⟨d, hd, rfl⟩ := List.mem_map.1 hx
  exact mem_pids (h.subset hd)
section
variable {live traps : List Int} {ds : List Dth} {ns : List NB} {last : Int}
/-- What is known of one that has died. -/
def DOk (L : List Bd) (live traps : List Int) (ds : List Dth) (d : Dth) : Prop := d ∈ ds ∨ (isA d.r normalS = false ∧ Rq L live traps ds d.p ∧ d.p ∉ pids ds)
theorem DOk.rq {L : List Bd} {d : Dth} (h : DOk L live traps ds d) (hn : isA d.r normalS = false) : Rq L live traps ds d.p := by
  rcases h with h | h
  · exact .base h hn
  · exact h.2.1
theorem other_nb {L : List Bd} {b : Bd} {p : Int} (hb : b ∈ L) (h0 : ¬ 0 < b.r) (hg : Good b) (ho : isOf p b = true) : Nb L p (otherP p b) := by
  have hr : b.r = 0 := by have := hg.2.2; omega
  unfold isOf at ho
  have ho := of_decide_eq_true ho
  unfold otherP
  refine ⟨b, hb, hr, ?_⟩
  by_cases h : b.a = p
  · rw [if_pos h]; exact .inl ⟨h, rfl⟩
  · rw [if_neg h]; exact .inr ⟨ho.resolve_left h, rfl⟩
theorem bond1_ok {L : List Bd} {d : Dth} {s : SS} {b : Bd} (hs : ds <+: s.ds) (hb : b ∈ L) (hg : Good b) (ho : isOf d.p b = true) (hd : DOk L live traps ds d) (h : ∀ e ∈ s.ds, DOk L live traps ds e) : ∀ e ∈ (bond1 live traps d s b).ds, DOk L live traps ds e := by
  unfold bond1
  split
  · exact h
  · rename_i ha
    split
    · exact h
    · rename_i h0
      split
      · exact h
      · rename_i ht
        split
        · exact h
        · rename_i hn
          have ha' : aliveB live s.ds (otherP d.p b) = true := by simpa using ha
          intro e he
          rcases List.mem_append.1 he with he | he
          · exact h e he
          · rw [List.mem_singleton.1 he]
            have hnp : otherP d.p b ∉ pids ds := fun hx => alive_not ha' (pre_pids hs hx)
            exact .inr ⟨by simpa using hn, .step (hd.rq (by simpa using hn)) (other_nb hb h0 hg ho) (alive_live ha') ht hnp, hnp⟩
theorem fold_ok {L : List Bd} {d : Dth} (hG : GoodL L) (hd : DOk L live traps ds d) : ∀ (l : List Bd) (s : SS), (∀ b ∈ l, b ∈ L ∧ isOf d.p b = true) → ds <+: s.ds → (∀ e ∈ s.ds, DOk L live traps ds e) → ∀ e ∈ (l.foldl (bond1 live traps d) s).ds, DOk L live traps ds e
  | [], _, _, _, h => h
  | b :: l, s, hl, hs, h => by
    obtain ⟨h1, h2⟩ := hl b (List.mem_cons_self ..)
    exact fold_ok hG hd l _ (fun b hb => hl b (List.mem_cons_of_mem _ hb)) (hs.trans (bond1_grow live traps d s b).1) (bond1_ok hs h1 (hG b h1) h2 hd h)
theorem bond1_in {d : Dth} {s : SS} {b : Bd} (h0 : ¬ 0 < b.r) (hl : otherP d.p b ∈ live) (ht : otherP d.p b ∉ traps) (hn : isA d.r normalS = false) : otherP d.p b ∈ pids (bond1 live traps d s b).ds := by
  cases ha : aliveB live s.ds (otherP d.p b)
  · rw [bond1_out ha]
    exact alive_no ha hl
  · rw [bond1_dies ha h0 ht hn]
    exact mem_pids (d := ⟨otherP d.p b, d.r⟩) (by simp)
theorem fold_in {d : Dth} {b : Bd} (h0 : ¬ 0 < b.r) (hl : otherP d.p b ∈ live) (ht : otherP d.p b ∉ traps) (hn : isA d.r normalS = false) : ∀ (l : List Bd) (s : SS), b ∈ l → otherP d.p b ∈ pids (l.foldl (bond1 live traps d) s).ds
  | [], _, h => by cases h
  | c :: l, s, h => by
    rcases List.mem_cons.1 h with rfl | h
    · exact pre_pids (fold_grow live traps d l _).1 (bond1_in h0 hl ht hn)
    · exact fold_in h0 hl ht hn l _ h
/-- What holds behind so many rounds. -/
structure RInv (live traps : List Int) (ds : List Dth) (ns : List NB) (i : Nat) : Prop where
  pre : ds <+: (rnds live traps i (⟨ds, []⟩, ns)).1.ds
  ok : ∀ d ∈ (rnds live traps i (⟨ds, []⟩, ns)).1.ds, DOk (sn ns) live traps ds d
  clo : ∀ (j : Nat) d, j < i → (rnds live traps i (⟨ds, []⟩, ns)).1.ds[j]? = some d → isA d.r normalS = false → ∀ q, Nb (sn ns) d.p q → q ∈ live → q ∉ traps → q ∈ pids (rnds live traps i (⟨ds, []⟩, ns)).1.ds
theorem told_mem {pid : Int} {l : List Bd} {b : Bd} : b ∈ told pid l ↔ b ∈ l ∧ isOf pid b = true ∧ tells pid b = true := by
  unfold told
  rw [List.mem_filter, Bool.and_eq_true]
theorem rinv (hw : wrongE live traps ds = 0) (hg : GOk ns last) : ∀ i, RInv live traps ds ns i
  | 0 => ⟨List.prefix_rfl, fun d hd => .inl hd, fun j d hj => (by omega)⟩
  | i + 1 => by
    have ih := rinv hw hg i
    have hp := rnds_pre live traps (⟨ds, []⟩, ns) i
    have hle := rnds_left live traps ds ns i
    have hnd := ((okr_start (traps := traps) hw hg).rnds (traps := traps) i).s.nodup
    have he : rnds live traps (i + 1) (⟨ds, []⟩, ns) = rnd live traps i (rnds live traps i (⟨ds, []⟩, ns)) := rfl
    obtain ⟨h1, h2, h3⟩ := ih
    have key : RInv live traps ds ns (i + 1) ↔ (ds <+: (rnd live traps i (rnds live traps i (⟨ds, []⟩, ns))).1.ds) ∧ (∀ d ∈ (rnd live traps i (rnds live traps i (⟨ds, []⟩, ns))).1.ds, DOk (sn ns) live traps ds d) ∧
        (∀ (j : Nat) d, j < i + 1 → (rnd live traps i (rnds live traps i (⟨ds, []⟩, ns))).1.ds[j]? = some d → isA d.r normalS = false → ∀ q, Nb (sn ns) d.p q → q ∈ live → q ∉ traps → q ∈ pids (rnd live traps i (rnds live traps i (⟨ds, []⟩, ns))).1.ds) :=
      ⟨fun h => ⟨h.pre, h.ok, h.clo⟩, fun ⟨a, b, c⟩ => ⟨a, b, c⟩⟩
    rw [key]
    rw [he] at hp
    obtain ⟨st, hst⟩ : ∃ st, st = rnds live traps i (⟨ds, []⟩, ns) := ⟨_, rfl⟩
    rw [← hst] at h1 h2 h3 hp hle hnd ⊢
    clear key he hst
    cases hd : st.1.ds[i]? with
    | none =>
      have e : rnd live traps i st = st := by unfold rnd; rw [hd]
      rw [e]
      refine ⟨h1, h2, fun j d hj hjd hn q hq hl ht => ?_⟩
      have : j < i := by
        have a1 := (List.getElem?_eq_some_iff.1 hjd).1
        rw [List.getElem?_eq_none_iff] at hd
        omega
      exact h3 j d this hjd hn q hq hl ht
    | some d =>
      rw [rnd_some hd] at hp ⊢
      have hdm := List.mem_of_getElem? hd
      have hsub : ∀ b ∈ told d.p (sn st.2), b ∈ sn ns ∧ isOf d.p b = true := fun b hb => by
        obtain ⟨a1, a2, _⟩ := told_mem.1 hb
        refine ⟨?_, a2⟩
        obtain ⟨x, hx, rfl⟩ := List.mem_map.1 a1
        rw [hle] at hx
        exact List.mem_map.2 ⟨x, (List.mem_filter.1 hx).1, rfl⟩
      refine ⟨h1.trans hp, fold_ok hg.goodL (h2 d hdm) _ _ hsub h1 h2, fun j e hj hje hn q hq hl ht => ?_⟩
      rcases Nat.lt_succ_iff_lt_or_eq.1 hj with hj | hj
      · have hjl : j < st.1.ds.length := by have := (List.getElem?_eq_some_iff.1 hd).1; omega
        have hje' : st.1.ds[j]? = some e := by
          obtain ⟨t, ht'⟩ := hp
          have hje2 : (List.foldl (bond1 live traps d) st.1 (told d.p (sn st.2))).ds[j]? = some e := hje
          rw [← ht', List.getElem?_append_left hjl] at hje2
          exact hje2
        exact pre_pids hp (h3 j e hj hje' hn q hq hl ht)
      · subst hj
        have hje' : d = e := by
          obtain ⟨t, ht'⟩ := hp
          have hje2 : (List.foldl (bond1 live traps d) st.1 (told d.p (sn st.2))).ds[j]? = some e := hje
          rw [← ht', List.getElem?_append_left (List.getElem?_eq_some_iff.1 hd).1, hd] at hje2
          exact Option.some.inj hje2
        subst hje'
        obtain ⟨b, hb, hr, hab⟩ := hq
        have hgood := hg.goodL b hb
        have hlt : b.a < b.b := by have := hgood.2.2; omega
        have hof : isOf d.p b = true := by
          unfold isOf
          refine decide_eq_true ?_
          rcases hab with h | h
          · exact .inl h.1
          · exact .inr h.1
        have hoth : otherP d.p b = q := by
          unfold otherP
          rcases hab with ⟨h, h'⟩ | ⟨h, h'⟩
          · rw [if_pos h]; exact h'.symm
          · rw [if_neg (by omega)]; exact h'.symm
        have h0 : ¬ 0 < b.r := by omega
        by_cases hbl : b ∈ sn st.2
        · have := fold_in (d := d) (b := b) h0 (by rw [hoth]; exact hl) (by rw [hoth]; exact ht) hn (told d.p (sn st.2)) st.1 (told_mem.2 ⟨hbl, hof, by unfold tells; simp [hr]⟩)
          rw [hoth] at this
          exact this
        · -- the bond is gone: so the other one has died
          obtain ⟨nn, hnn⟩ := mem_sn.1 hb
          have hgo : goneB (st.1.ds.take j) b = true := by
            cases hgb : goneB (st.1.ds.take j) b with
            | true => rfl
            | false =>
              refine absurd ?_ hbl
              rw [hle]
              exact List.mem_map.2 ⟨(nn, b), List.mem_filter.2 ⟨hnn, by simp [hgb]⟩, rfl⟩
          unfold goneB at hgo
          obtain ⟨e, he, heo⟩ := List.any_eq_true.1 hgo
          obtain ⟨k, hk⟩ := List.mem_iff_getElem?.1 he
          rw [List.getElem?_take] at hk
          have hkj : k < j := by
            by_cases h : k < j
            · exact h
            · rw [if_neg h] at hk; cases hk
          rw [if_pos hkj] at hk
          have hne : e.p ≠ d.p := fun hx => by
            obtain ⟨a1, e1⟩ := List.getElem?_eq_some_iff.1 (show (pids st.1.ds)[k]? = some e.p by unfold pids; rw [List.getElem?_map, hk]; rfl)
            obtain ⟨a2, e2⟩ := List.getElem?_eq_some_iff.1 (show (pids st.1.ds)[j]? = some d.p by unfold pids; rw [List.getElem?_map, hd]; rfl)
            have := List.pairwise_iff_getElem.1 hnd k j a1 a2 hkj
            rw [e1, e2] at this
            exact this hx
          have heo' : b.a = e.p ∨ b.b = e.p := by unfold isOf at heo; exact of_decide_eq_true heo
          have hq' : e.p = q := by
            rcases hab with ⟨h, h'⟩ | ⟨h, h'⟩ <;> rcases heo' with h4 | h4
            · exact absurd (h4.symm.trans h) hne
            · exact h4.symm.trans h'.symm
            · exact h4.symm.trans h'.symm
            · exact absurd (h4.symm.trans h) hne
          rw [← hq']
          exact pre_pids hp (mem_pids (List.mem_of_getElem? hk))
/-- Who ends. -/
theorem sprd_reach (hw : wrongE live traps ds = 0) (hg : GOk ns last) (p : Int) : p ∈ pids (sprd live traps ds ns).1.ds ↔ p ∈ pids ds ∨ Rq (sn ns) live traps ds p := by
  obtain ⟨h1, h2, h3⟩ := rinv hw hg live.length
  have hle := ((okr_start (traps := traps) hw hg).rnds (traps := traps) live.length).s.le
  unfold sprd
  obtain ⟨D, hD⟩ : ∃ D, D = (rnds live traps live.length (⟨ds, []⟩, ns)).1.ds := ⟨_, rfl⟩
  rw [← hD] at h1 h2 h3 hle ⊢
  constructor
  · intro hp
    obtain ⟨d, hd, rfl⟩ := List.mem_map.1 hp
    rcases h2 d hd with h | h
    · exact .inl (mem_pids h)
    · exact .inr h.2.1
  · rintro (hp | hp)
    · exact pre_pids h1 hp
    · have : ∃ d ∈ D, d.p = p ∧ isA d.r normalS = false := by
        induction hp with
        | @base d hd hn => exact ⟨d, h1.subset hd, rfl, hn⟩
        | @step x y hx hnb hl ht hnp ih =>
          obtain ⟨d, hd, rfl, hn⟩ := ih
          obtain ⟨j, hj⟩ := List.mem_iff_getElem?.1 hd
          have := h3 j d (by have := (List.getElem?_eq_some_iff.1 hj).1; omega) hj hn y hnb hl ht
          obtain ⟨e, he, rfl⟩ := List.mem_map.1 this
          refine ⟨e, he, rfl, ?_⟩
          rcases h2 e he with h | h
          · exact absurd (mem_pids h) hnp
          · exact h.1
      obtain ⟨d, hd, rfl, _⟩ := this
      exact mem_pids hd
end
/-- Whom a walk over links from one meets that has not met these. -/
inductive RP (L : List Bd) (live traps l : List Int) (p : Int) : Int → Prop
  | one {y : Int} : Nb L p y → y ∈ live → y ∉ traps → y ∉ l → RP L live traps l p y
  | step {x y : Int} : RP L live traps l p x → Nb L x y → y ∈ live → y ∉ traps → y ∉ l → RP L live traps l p y
theorem RP.lift {L : List Bd} {live traps l m : List Int} {p x y : Int} (h : RP L live traps m y x) (hy : RP L live traps l p y) (hno : ∀ z, z ∉ m → z ∉ l) : RP L live traps l p x := by
  induction h with
  | one a b c d => exact .step hy a b c (hno _ d)
  | step _ a b c d ih => exact .step ih a b c (hno _ d)
theorem RP.rq {L : List Bd} {live traps m : List Int} {ds : List Dth} {x y : Int} (h : RP L live traps m y x) (hy : Rq L live traps ds y) (hno : ∀ z, z ∉ m → z ∉ pids ds) : Rq L live traps ds x := by
  induction h with
  | one a b c d => exact .step hy a b c (hno _ d)
  | step _ a b c d ih => exact .step ih a b c (hno _ d)
/-- What a visit leaves. -/
structure Vis (L : List Bd) (live traps : List Int) (p : Int) (l l' : List Int) : Prop where
  pre : l <+: l'
  nd : l.Nodup → l'.Nodup
  sound : ∀ x ∈ l', x ∈ l ∨ RP L live traps l p x
  closed : ∀ x, (x = p ∨ (x ∈ l' ∧ x ∉ l)) → ∀ q, Nb L x q → q ∈ live → q ∉ traps → q ∈ l'
/-- What a visit leaves behind some of the neighbours. -/
structure VisJ (L : List Bd) (live traps S : List Int) (p : Int) (l : List Int) (j : Nat) (lj : List Int) : Prop where
  pre : l <+: lj
  nd : l.Nodup → lj.Nodup
  sound : ∀ x ∈ lj, x ∈ l ∨ RP L live traps l p x
  closed : ∀ x, x ∈ lj → x ∉ l → ∀ q, Nb L x q → q ∈ live → q ∉ traps → q ∈ lj
  done : ∀ y ∈ S.take j, y ∈ live → y ∉ traps → y ∈ lj
section
variable {L : List Bd} {live traps S : List Int} {p : Int} {l lj l2 : List Int} {j : Nat} {y : Int}
theorem VisJ.start : VisJ L live traps S p l 0 l := ⟨List.prefix_rfl, fun h => h, fun x h => .inl h, fun x h h' => absurd h h', fun y h => by simp at h⟩
theorem take_mem {S : List Int} {j : Nat} {y x : Int} (hy : S[j]? = some y) (hx : x ∈ S.take (j + 1)) : x ∈ S.take j ∨ x = y := by
  rw [List.take_add_one, hy, List.mem_append] at hx
  exact hx.imp (fun h => h) (fun h => by simpa using h)
theorem VisJ.skip (h : VisJ L live traps S p l j lj) (hy : S[j]? = some y) (hs : y ∈ lj ∨ y ∉ live ∨ y ∈ traps) : VisJ L live traps S p l (j + 1) lj :=
  ⟨h.pre, h.nd, h.sound, h.closed, fun x hx hl ht => by
    rcases take_mem hy hx with hx | rfl
    · exact h.done x hx hl ht
    · rcases hs with hs | hs | hs
      · exact hs
      · exact absurd hl hs
      · exact absurd hs ht⟩
theorem VisJ.go (h : VisJ L live traps S p l j lj) (hS : ∀ x ∈ S, Nb L p x) (hy : S[j]? = some y) (h1 : y ∉ lj) (h2 : y ∈ live) (h3 : y ∉ traps) (hv : Vis L live traps y (lj ++ [y]) l2) : VisJ L live traps S p l (j + 1) l2 := by
  have hyl : y ∉ l := fun hx => h1 (h.pre.subset hx)
  have hyp : RP L live traps l p y := .one (hS y (List.mem_of_getElem? hy)) h2 h3 hyl
  refine ⟨(h.pre.trans (List.prefix_append _ _)).trans hv.pre, fun hn => hv.nd (nodup_snoc (h.nd hn) h1), fun x hx => ?_, fun x hx hxl q hq hl ht => ?_, fun x hx hl ht => ?_⟩
  · rcases hv.sound x hx with hx | hx
    · rcases List.mem_append.1 hx with hx | hx
      · exact h.sound x hx
      · rw [List.mem_singleton.1 hx]; exact .inr hyp
    · refine .inr ?_
      exact hx.lift hyp (fun z hz hzl => hz (List.mem_append_left _ (h.pre.subset hzl)))
  · by_cases hxj : x ∈ lj
    · exact hv.pre.subset (List.mem_append_left _ (h.closed x hxj hxl q hq hl ht))
    · by_cases hxy : x = y
      · exact hv.closed x (.inl hxy) q hq hl ht
      · exact hv.closed x (.inr ⟨hx, fun hm => by
          rcases List.mem_append.1 hm with hm | hm
          · exact hxj hm
          · exact hxy (List.mem_singleton.1 hm)⟩) q hq hl ht
  · rcases take_mem hy hx with hx | rfl
    · exact hv.pre.subset (List.mem_append_left _ (h.done x hx hl ht))
    · exact hv.pre.subset (List.mem_append_right _ (List.mem_singleton.2 rfl))
theorem VisJ.end (h : VisJ L live traps S p l j lj) (hS : SetOf S (Nb L p)) (hj : S.length ≤ j) : Vis L live traps p l lj := by
  refine ⟨h.pre, h.nd, h.sound, fun x hx q hq hl ht => ?_⟩
  rcases hx with rfl | ⟨h1, h2⟩
  · exact h.done q (by rw [List.take_of_length_le hj]; exact (hS.2 q).2 hq) hl ht
  · exact h.closed x h1 h2 q hq hl ht
end
/-- How many are yet to be met. -/
def yet (live l : List Int) : Nat := (live.filter (fun x => !decide (x ∈ l))).length
theorem yet_lt {live l lj : List Int} {y : Int} (h : l <+: lj) (h1 : y ∉ lj) (h2 : y ∈ live) : yet live (lj ++ [y]) < yet live l := by
  unfold yet
  have hsub : (live.filter (fun x => !decide (x ∈ lj ++ [y]))) = (live.filter (fun x => !decide (x ∈ l))).filter (fun x => !decide (x ∈ lj ++ [y])) := by
    rw [List.filter_filter]
    refine List.filter_congr fun x _ => ?_
    by_cases hx : x ∈ l
    · have : x ∈ lj ++ [y] := List.mem_append_left _ (h.subset hx)
      simp [hx, this]
    · simp [hx]
  rw [hsub]
  refine Nat.lt_of_le_of_ne (List.length_filter_le _ _) (fun he => ?_)
  have := List.length_filter_eq_length_iff.1 he y (List.mem_filter.2 ⟨h2, by simp; exact fun hx => h1 (h.subset hx)⟩)
  simp at this
/-- What the whole gathering knows behind some of the first. -/
structure WInv (L : List Bd) (live traps : List Int) (ds : List Dth) (k : Nat) (W : List Int) : Prop where
  pre : pids ds <+: W
  nd : W.Nodup
  sound : ∀ x ∈ W, x ∈ pids ds ∨ Rq L live traps ds x
  closed : ∀ x, x ∈ W → x ∉ pids ds → ∀ q, Nb L x q → q ∈ live → q ∉ traps → q ∈ W
  done : ∀ d ∈ ds.take k, isA d.r normalS = false → ∀ q, Nb L d.p q → q ∈ live → q ∉ traps → q ∈ W
section
variable {L : List Bd} {live traps : List Int} {ds : List Dth} {k : Nat} {W W' : List Int} {d : Dth}
theorem WInv.start (h : (pids ds).Nodup) : WInv L live traps ds 0 (pids ds) := ⟨List.prefix_rfl, h, fun x h => .inl h, fun x h h' => absurd h h', fun d h => by simp at h⟩
theorem take_memD {ds : List Dth} {k : Nat} {d e : Dth} (hd : ds[k]? = some d) (he : e ∈ ds.take (k + 1)) : e ∈ ds.take k ∨ e = d := by
  rw [List.take_add_one, hd, List.mem_append] at he
  exact he.imp (fun h => h) (fun h => by simpa using h)
theorem WInv.skip (h : WInv L live traps ds k W) (hd : ds[k]? = some d) (hn : isA d.r normalS = true) : WInv L live traps ds (k + 1) W :=
  ⟨h.pre, h.nd, h.sound, h.closed, fun e he hne q hq hl ht => by
    rcases take_memD hd he with he | rfl
    · exact h.done e he hne q hq hl ht
    · rw [hn] at hne; cases hne⟩
theorem WInv.go (h : WInv L live traps ds k W) (hd : ds[k]? = some d) (hn : isA d.r normalS = false) (hv : Vis L live traps d.p W W') : WInv L live traps ds (k + 1) W' := by
  refine ⟨h.pre.trans hv.pre, hv.nd h.nd, fun x hx => ?_, fun x hx hxn q hq hl ht => ?_, fun e he hne q hq hl ht => ?_⟩
  · rcases hv.sound x hx with hx | hx
    · exact h.sound x hx
    · refine .inr ?_
      exact hx.rq (.base (List.mem_of_getElem? hd) hn) (fun z hz hzl => hz (h.pre.subset hzl))
  · by_cases hxW : x ∈ W
    · exact hv.pre.subset (h.closed x hxW hxn q hq hl ht)
    · exact hv.closed x (.inr ⟨hx, hxW⟩) q hq hl ht
  · rcases take_memD hd he with he | rfl
    · exact hv.pre.subset (h.done e he hne q hq hl ht)
    · exact hv.closed e.p (.inl rfl) q hq hl ht
theorem WInv.all (h : WInv L live traps ds k W) (hk : ds.length ≤ k) (x : Int) : x ∈ W ↔ x ∈ pids ds ∨ Rq L live traps ds x := by
  refine ⟨h.sound x, ?_⟩
  rintro (hx | hx)
  · exact h.pre.subset hx
  · have : x ∈ W ∧ ∀ q, Nb L x q → q ∈ live → q ∉ traps → q ∈ W := by
      induction hx with
      | @base d hd hn => exact ⟨h.pre.subset (mem_pids hd), fun q hq hl ht => h.done d (by rw [List.take_of_length_le hk]; exact hd) hn q hq hl ht⟩
      | @step x y _ hnb hl ht hnp ih =>
        have h1 := ih.2 y hnb hl ht
        exact ⟨h1, fun q hq hl ht => h.closed y h1 hnp q hq hl ht⟩
    exact this.1
/-- Both are as long. -/
theorem WInv.len {D : List Int} (h : WInv L live traps ds k W) (hk : ds.length ≤ k) (hD : D.Nodup) (hm : ∀ x, x ∈ D ↔ x ∈ pids ds ∨ Rq L live traps ds x) : D.length = W.length ∧ ∀ x ∈ W, x ∈ D :=
  ⟨((List.perm_ext_iff_of_nodup hD h.nd).2 fun x => (hm x).trans (h.all hk x).symm).length_eq, fun x hx => (hm x).2 ((h.all hk x).1 hx)⟩
end
end Go.Proofs.YtameidoaenoppaaDoor

namespace Go.Proofs.YtameidoaenoppaaDoor
open Go.RowKit

def SameB (w1 : World) (v v' : Value) : Prop := v'.ownBlock = v.ownBlock ∨ ∃ g, v'.ownBlock = some g ∧ w1.heap.size ≤ g
def ReachPost (w : World) (L : List Bd) (live traps : List Int) (pid : Int) (v : Value) (l : List Int) (e : Ending) (w' : World) : Prop :=
  ∃ A c l' n, e = .returned (.slice A n c) ∧ n = l'.length ∧ Own w' 2 eI64 (.slice A n c) l' ∧ Vis L live traps pid l l' ∧ Chg (fun g => v.ownBlock = some g) w w' ∧ SameB w v (.slice A n c)
theorem pids_len {l : List Int} (hn : l.Nodup) (hp : ∀ x ∈ l, IsPid x) : l.length ≤ 1099511627776 := nodup_pids (l := l) 1099511627776 hn hp
theorem live_pid {live : List Int} (h : badP live = false) : ∀ x ∈ live, IsPid x := fun x hx => by
  obtain ⟨i, hi⟩ := List.mem_iff_getElem?.1 hx
  exact badP_pid h hi
theorem RP.live {L : List Bd} {live traps l : List Int} {p x : Int} (h : RP L live traps l p x) : x ∈ live := by cases h <;> assumption
theorem VisJ.pid {L : List Bd} {live traps S : List Int} {p : Int} {l lj : List Int} {j : Nat} (h : VisJ L live traps S p l j lj) (hl : ∀ x ∈ live, IsPid x) (h0 : ∀ x ∈ l, IsPid x) : ∀ x ∈ lj, IsPid x := fun x hx => (h.sound x hx).elim (h0 x) (fun hr => hl x hr.live)
theorem Vis.pid {L : List Bd} {live traps : List Int} {p : Int} {l lj : List Int} (h : Vis L live traps p l lj) (hl : ∀ x ∈ live, IsPid x) (h0 : ∀ x ∈ l, IsPid x) : ∀ x ∈ lj, IsPid x := fun x hx => (h.sound x hx).elim (h0 x) (fun hr => hl x hr.live)
section
variable {w w' : World} {q : Nat} {lv v : Value} {L : List Bd} {l : List Int}
theorem d_off (h : IsD w q lv L) (ho : Own w 2 eI64 v l) : ∀ g, FD q lv g → ¬ (v.ownBlock = some g) := fun g hg hv => by
  obtain ⟨cur, hc⟩ := ho.blk' hv
  rcases hg with rfl | hg
  · rw [h.blk] at hc; cases hc
  · obtain ⟨cur', hc'⟩ := h.own.blk' hg
    rw [hc'] at hc; cases hc
end
set_option maxRecDepth 100000 in
set_option maxHeartbeats 16000000 in
theorem reached_any (w0 : World) (q : Nat) (lv : Value) (L : List Bd) (live traps : List Int) (A1 A2 : Option Addr) (c1 c2 : Nat) (v0 v3 : Value) (hl : Src w0 eI64 A1 c1 live) (ht : Src w0 eI64 A2 c2 traps) (hn1 : live.length ≤ 17592186043904) (hn2 : traps.length ≤ 17592186043904)
    (hbad : badP live = false) (hG : GoodL L) (hL : L.length ≤ 1000000) :
    ∀ (N : Nat) (w : World) (pid : Int) (A : Option Addr) (c n : Nat) (l : List Int), yet live l ≤ N → Below w0.heap.size w0 w → IsD w q lv L → Own w 2 eI64 (.slice A n c) l → n = l.length → Fresh w0 (.slice A n c) → l.Nodup → (∀ x ∈ l, IsPid x) →
      Calls Tryd.prog 23 #[.pointer (some ⟨q, 0, none⟩), .agg #[v0, .slice A1 live.length c1, .slice A2 traps.length c2, v3], .int .i64 pid, .slice A n c] w (ReachPost w L live traps pid (.slice A n c) l) := by
  obtain ⟨n1, h1⟩ : ∃ n, n = live.length := ⟨_, rfl⟩
  obtain ⟨n2, h2⟩ : ∃ n, n = traps.length := ⟨_, rfl⟩
  have NN := Kp.mk (And.intro h1 h2)
  rw [← h1, ← h2]
  have HLV := Kp.mk hl
  have HTR := Kp.mk ht
  have HLP := Kp.mk (live_pid hbad)
  have HGL := Kp.mk hG
  have HN1 := Kp.mk hn1
  have HN2 := Kp.mk hn2
  clear hl ht hbad hG h1 h2 hn1 hn2
  intro N
  induction N with
  | zero =>
    intro w pid A c n l hy hb hd ho hn hf hnd hp
    have hbx : Below w.heap.size w (w.alloc (.cells #[v0, .slice A1 n1 c1, .slice A2 n2 c2, v3] 38)) := (Below.refl _ _).alloc (Nat.le_refl _) _
    have HPE := Kp.mk (dpeers_any _ q lv L pid (hd.below hbx) hL HGL.out)
    have X1 := Kp.mk (blk_new w (.cells #[v0, .slice A1 n1 c1, .slice A2 n2 c2, v3] 38))
    obtain ⟨bb, hbb⟩ : ∃ bb, bb = w.heap.size := ⟨_, rfl⟩
    have BB := Kp.mk hbb
    have HB := Kp.mk hb
    have HD := Kp.mk hd
    have HO := Kp.mk ho
    have HNN := Kp.mk hn
    have HF := Kp.mk hf
    have HND := Kp.mk hnd
    have HPI := Kp.mk hp
    have HY := Kp.mk hy
    have HBX := Kp.mk hbx
    have hn9 : n ≤ 1099511627776 := by rw [hn]; exact pids_len hnd hp
    clear hy hb hd ho hn hf hnd hp hbx hbb hL
    go_enter Tryd.func23, Tryd.ntmps23
    go_wp2_with fail
    refine HPE.out.mono ?_
    rintro e w1 ⟨v1, S, rfl, o1, f1, b1, ss⟩
    obtain ⟨As, cs, hv, hcs, hms, hs0, hs1⟩ := o1.shape
    subst hv
    obtain ⟨ms, hm⟩ : ∃ m, m = S.length := ⟨_, rfl⟩
    have MS := Kp.mk hm
    rw [← hm] at o1 f1 hcs ⊢
    unfold maxLen at hms
    have OS := Kp.mk o1
    have FS := Kp.mk f1
    have B1 := Kp.mk b1
    have SS := Kp.mk ss
    have HS0 := Kp.mk hs0
    have HS1 := Kp.mk hs1
    have XB := Kp.mk ((b1.block _ (lt_of_block X1.out)).trans X1.out)
    rw [← BB.out] at XB ⊢
    have hms9 : ms ≤ 9223372036854775807 := by omega
    clear o1 f1 b1 ss hm hs0 hs1
    go_wp2
    go_loopw [3, 10, 15] (fun s _ i wr => ∃ (k : Nat), k ≤ ms ∧ i = .int .i64 k ∧ s = .slice A n c ∧ Kp (Own wr 2 eI64 (.slice A n c) l) ∧ Kp (VisJ L live traps S pid l k l) ∧ Kp (Below w1.heap.size w1 wr)) (fun _ _ i _ => ms - (intOf i).toNat)
    case atStart => exact ⟨0, Nat.zero_le _, rfl, rfl, ⟨(HO.out.below HBX.out).below B1.out⟩, ⟨VisJ.start⟩, ⟨Below.refl _ _⟩⟩
    case round =>
      obtain ⟨k, hk, rfl, rfl, OJ, VJ, BJ⟩ := hrel
      by_cases hlt : k < ms
      · obtain ⟨y, hy⟩ : ∃ y, S[k]? = some y := ⟨_, List.getElem?_eq_getElem (by have := MS.out; omega)⟩
        obtain ⟨gs, rfl⟩ : ∃ g, As = some ⟨g, 0, none⟩ := by
          cases As with
          | none => have h9 := (HS0.out rfl).1; rw [h9] at hy; simp at hy
          | some a => obtain ⟨g, rfl⟩ := HS1.out a rfl; exact ⟨g, rfl⟩
        have a0 := ((OS.out.below BJ.out).src rfl).i64 k y hy
        rw [Nat.zero_add] at a0
        have k0 : (0 : Int) ≤ (k : Int) := by omega
        have k1 : (k : Int) < (ms : Int) := by omega
        have HWB := Kp.mk (bstep (bstep (bstep HB.out HB.out.size HBX.out) (bstep HB.out HB.out.size HBX.out).size B1.out) (bstep (bstep HB.out HB.out.size HBX.out) (bstep HB.out HB.out.size HBX.out).size B1.out).size BJ.out)
        have XJ := Kp.mk ((BJ.out.block _ (lt_of_block XB.out)).trans XB.out)
        have hyy : y ∈ l ∨ y ∉ live := by
          by_cases h : y ∈ l
          · exact .inl h
          · refine .inr (fun hl => ?_)
            have h9 := HY.out
            unfold yet at h9
            have h8 := List.eq_nil_of_length_eq_zero (Nat.le_zero.1 h9)
            have : y ∈ live.filter (fun x => !decide (x ∈ l)) := List.mem_filter.2 ⟨hl, by simp [h]⟩
            rw [h8] at this
            cases this
        have VK := Kp.mk (VJ.out.skip hy (by rcases hyy with h | h; exact .inl h; exact .inr (.inl h)))
        have c1b := blk_c XJ.out 1
        have lbb := lt_of_block XJ.out
        have hh1 := has_any wr A c l y (OJ.out.src rfl) (by have := HNN.out; omega)
        have hh2 := has_any wr A1 c1 live y (HLV.out.below HWB.out) (by have := HN1.out; omega)
        rw [← HNN.out] at hh1
        rw [← NN.out.1] at hh2
        by_cases h : y ∈ l
        · rw [decide_eq_true h] at hh1
          have HH1 := Kp.mk hh1
          clear h hyy hh1 hh2 hy
          go_wp2_with fail
          refine HH1.out.mono ?_
          rintro e w5 ⟨rfl, hw5⟩
          obtain rfl := hw5.symm
          go_wp2
          go_roundw
          case rel => exact ⟨k + 1, by omega, by go_num, rfl, OJ, VK, BJ⟩
          case measure => simp [intOf]; omega
        · have hnl := hyy.resolve_left h
          rw [decide_eq_false h] at hh1
          rw [decide_eq_false hnl] at hh2
          have HH1 := Kp.mk hh1
          have HH2 := Kp.mk hh2
          clear h hyy hh1 hh2 hy hnl
          go_wp2_with fail
          refine HH1.out.mono ?_
          rintro e w5 ⟨rfl, hw5⟩
          obtain rfl := hw5.symm
          go_wp2_with fail
          refine HH2.out.mono ?_
          rintro e w5 ⟨rfl, hw5⟩
          obtain rfl := hw5.symm
          go_wp2
          go_roundw
          case rel => exact ⟨k + 1, by omega, by go_num, rfl, OJ, VK, BJ⟩
          case measure => simp [intOf]; omega
      · obtain rfl : k = ms := by omega
        go_wp2
        go_ret
        exact ⟨A, c, l, n, rfl, HNN.out, OJ.out, VJ.out.end SS.out (by have := MS.out; omega), (Chg.of_below ((bstep HBX.out HBX.out.size B1.out).trans (BJ.out.mono (bstep HBX.out HBX.out.size B1.out).size)) NoF).mono (fun _ _ h => h.elim), .inl rfl⟩
  | succ N ih =>
    intro w pid A c n l hy hb hd ho hn hf hnd hp
    have IH := Kp.mk ih
    have hbx : Below w.heap.size w (w.alloc (.cells #[v0, .slice A1 n1 c1, .slice A2 n2 c2, v3] 38)) := (Below.refl _ _).alloc (Nat.le_refl _) _
    have HPE := Kp.mk (dpeers_any _ q lv L pid (hd.below hbx) hL HGL.out)
    have X1 := Kp.mk (blk_new w (.cells #[v0, .slice A1 n1 c1, .slice A2 n2 c2, v3] 38))
    obtain ⟨bb, hbb⟩ : ∃ bb, bb = w.heap.size := ⟨_, rfl⟩
    have BB := Kp.mk hbb
    have HB := Kp.mk hb
    have HD := Kp.mk hd
    have HO := Kp.mk ho
    have HNN := Kp.mk hn
    have HF := Kp.mk hf
    have HND := Kp.mk hnd
    have HPI := Kp.mk hp
    have HY := Kp.mk hy
    have HBX := Kp.mk hbx
    clear ih hy hb hd ho hn hf hnd hp hbx hbb hL
    go_enter Tryd.func23, Tryd.ntmps23
    go_wp2_with fail
    refine HPE.out.mono ?_
    rintro e w1 ⟨v1, S, rfl, o1, f1, b1, ss⟩
    obtain ⟨As, cs, hv, hcs, hms, hs0, hs1⟩ := o1.shape
    subst hv
    obtain ⟨ms, hm⟩ : ∃ m, m = S.length := ⟨_, rfl⟩
    have MS := Kp.mk hm
    rw [← hm] at o1 f1 hcs ⊢
    unfold maxLen at hms
    have OS := Kp.mk o1
    have FS := Kp.mk f1
    have B1 := Kp.mk b1
    have SS := Kp.mk ss
    have HS0 := Kp.mk hs0
    have HS1 := Kp.mk hs1
    have XB := Kp.mk ((b1.block _ (lt_of_block X1.out)).trans X1.out)
    rw [← BB.out] at XB ⊢
    have hms9 : ms ≤ 9223372036854775807 := by omega
    clear o1 f1 b1 ss hm hs0 hs1
    have HD1 := Kp.mk ((HD.out.below HBX.out).below B1.out)
    have HBW := Kp.mk (bstep (bstep HB.out HB.out.size HBX.out) (bstep HB.out HB.out.size HBX.out).size B1.out)
    have O1 := Kp.mk ((HO.out.below HBX.out).below B1.out)
    have VLT : Kp (∀ g, (Value.slice A n c).ownBlock = some g → g < w.heap.size ∧ w0.heap.size ≤ g) := ⟨fun g hg => ⟨HO.out.lt hg, HF.out g hg⟩⟩
    have WSZ : Kp (w.heap.size < w1.heap.size) := ⟨by have := (bstep HBX.out HBX.out.size B1.out).size; have h9 := B1.out.size; simp at h9; omega⟩
    go_wp2
    go_loopw [3, 10, 15] (fun s _ i wr => ∃ (k : Nat) (Aj : Option Addr) (nj cj : Nat) (lj : List Int), k ≤ ms ∧ i = .int .i64 k ∧ s = .slice Aj nj cj ∧ Kp (nj = lj.length) ∧ Kp (Own wr 2 eI64 (.slice Aj nj cj) lj) ∧ Kp (VisJ L live traps S pid l k lj) ∧ Kp (Chg (fun g => (Value.slice A n c).ownBlock = some g) w1 wr) ∧ Kp (SameB w1 (.slice A n c) (.slice Aj nj cj))) (fun _ _ i _ => ms - (intOf i).toNat)
    case atStart => exact ⟨0, A, n, c, l, Nat.zero_le _, rfl, rfl, HNN, O1, ⟨VisJ.start⟩, ⟨Chg.refl _ _⟩, ⟨.inl rfl⟩⟩
    case round =>
      obtain ⟨k, Aj, nj, cj, lj, hk, rfl, rfl, NJ, OJ, VJ, CJ, SJ⟩ := hrel
      by_cases hlt : k < ms
      · obtain ⟨y, hy⟩ : ∃ y, S[k]? = some y := ⟨_, List.getElem?_eq_getElem (by have := MS.out; omega)⟩
        have BJ0 : Kp (Below w0.heap.size w0 wr) := ⟨chg_below HBW.out CJ.out (fun g hg => (VLT.out g hg).2) HBW.out.size⟩
        obtain ⟨gs, rfl⟩ : ∃ g, As = some ⟨g, 0, none⟩ := by
          cases As with
          | none => have h9 := (HS0.out rfl).1; rw [h9] at hy; simp at hy
          | some a => obtain ⟨g, rfl⟩ := HS1.out a rfl; exact ⟨g, rfl⟩
        have a0 := ((OS.out.frame CJ.out (fun g hg hF => by have h1 := (VLT.out g hF).1; have h2 := FS.out g hg; simp at h2; omega)).src rfl).i64 k y hy
        rw [Nat.zero_add] at a0
        have k0 : (0 : Int) ≤ (k : Int) := by omega
        have k1 : (k : Int) < (ms : Int) := by omega
        have XJ := Kp.mk (CJ.out.at XB.out (fun hF => by have := (VLT.out _ hF).1; have := BB.out; omega))
        have nj9 : nj ≤ 1099511627776 := by rw [NJ.out]; exact pids_len (VJ.out.nd HND.out) (VJ.out.pid HLP.out HPI.out)
        have c1b := blk_c XJ.out 1
        have c2b := blk_c XJ.out 2
        have lbb := lt_of_block XJ.out
        have c0b := blk_c XJ.out 0
        have c3b := blk_c XJ.out 3
        have hh1 := has_any wr Aj cj lj y (OJ.out.src rfl) (by have := NJ.out; omega)
        have hh2 := has_any wr A1 c1 live y (HLV.out.below BJ0.out) (by have := HN1.out; omega)
        have hh3 := has_any wr A2 c2 traps y (HTR.out.below BJ0.out) (by have := HN2.out; omega)
        rw [← NJ.out] at hh1
        rw [← NN.out.1] at hh2
        rw [← NN.out.2] at hh3
        have HYS := Kp.mk hy
        clear hy
        by_cases h1 : y ∈ lj
        · rw [decide_eq_true h1] at hh1
          have HH1 := Kp.mk hh1
          have VK := Kp.mk (VJ.out.skip HYS.out (.inl h1))
          clear h1 hh1 hh2 hh3 c0b c3b
          go_wp2_with fail
          refine HH1.out.mono ?_
          rintro e w5 ⟨rfl, hw5⟩
          obtain rfl := hw5.symm
          go_wp2
          go_roundw
          case rel => exact ⟨k + 1, Aj, nj, cj, lj, by omega, by go_num, rfl, NJ, OJ, VK, CJ, SJ⟩
          case measure => simp [intOf]; omega
        rw [decide_eq_false h1] at hh1
        have HH1 := Kp.mk hh1
        by_cases h2 : y ∈ live
        rotate_left
        · rw [decide_eq_false h2] at hh2
          have HH2 := Kp.mk hh2
          have VK := Kp.mk (VJ.out.skip HYS.out (.inr (.inl h2)))
          clear h1 h2 hh1 hh2 hh3 c0b c3b
          go_wp2_with fail
          refine HH1.out.mono ?_
          rintro e w5 ⟨rfl, hw5⟩
          obtain rfl := hw5.symm
          go_wp2_with fail
          refine HH2.out.mono ?_
          rintro e w5 ⟨rfl, hw5⟩
          obtain rfl := hw5.symm
          go_wp2
          go_roundw
          case rel => exact ⟨k + 1, Aj, nj, cj, lj, by omega, by go_num, rfl, NJ, OJ, VK, CJ, SJ⟩
          case measure => simp [intOf]; omega
        rw [decide_eq_true h2] at hh2
        have HH2 := Kp.mk hh2
        by_cases h3 : y ∈ traps
        · rw [decide_eq_true h3] at hh3
          have HH3 := Kp.mk hh3
          have VK := Kp.mk (VJ.out.skip HYS.out (.inr (.inr h3)))
          clear h1 h2 h3 hh1 hh2 hh3 c0b c3b
          go_wp2_with fail
          refine HH1.out.mono ?_
          rintro e w5 ⟨rfl, hw5⟩
          obtain rfl := hw5.symm
          go_wp2_with fail
          refine HH2.out.mono ?_
          rintro e w5 ⟨rfl, hw5⟩
          obtain rfl := hw5.symm
          go_wp2_with fail
          refine HH3.out.mono ?_
          rintro e w5 ⟨rfl, hw5⟩
          obtain rfl := hw5.symm
          go_wp2
          go_roundw
          case rel => exact ⟨k + 1, Aj, nj, cj, lj, by omega, by go_num, rfl, NJ, OJ, VK, CJ, SJ⟩
          case measure => simp [intOf]; omega
        rw [decide_eq_false h3] at hh3
        have HH3 := Kp.mk hh3
        have HY1 := Kp.mk h1
        have HY2 := Kp.mk h2
        have HY3 := Kp.mk h3
        clear h1 h2 h3 hh1 hh2 hh3
        go_wp2_with fail
        refine HH1.out.mono ?_
        rintro e w5 ⟨rfl, hw5⟩
        obtain rfl := hw5.symm
        go_wp2_with fail
        refine HH2.out.mono ?_
        rintro e w5 ⟨rfl, hw5⟩
        obtain rfl := hw5.symm
        go_wp2_with fail
        refine HH3.out.mono ?_
        rintro e w5 ⟨rfl, hw5⟩
        obtain rfl := hw5.symm
        go_upto_region 6 with (at_builtin; refine app1_ev T50 y rfl _ _ rfl OJ.out rfl rfl rfl rfl rfl (by have := NJ.out; omega) (by have := NJ.out; omega) ?_; intro A4 n4 c4 w4 d0 d1 d2 d3; have D0 := d0; have D1 := Kp.mk d1; have D2 := Kp.mk d2; have D3 := Kp.mk d3; clear d0 d1 d2 d3)
        have N4 : Kp (n4 = (lj ++ [y]).length) := ⟨by rw [List.length_append]; exact D0.out⟩
        have SJ4 : SameB w1 (.slice A n c) (.slice A4 n4 c4) := by
          rcases D3.out with h | ⟨g, h, hg⟩
          · rcases SJ.out with h9 | ⟨g9, h9, hg9⟩
            · exact .inl (h.trans h9)
            · exact .inr ⟨g9, h.trans h9, hg9⟩
          · exact .inr ⟨g, h, Nat.le_trans CJ.out.size hg⟩
        have jfr : ∀ g, (Value.slice Aj nj cj).ownBlock = some g → g < w1.heap.size → (Value.slice A n c).ownBlock = some g := fun g hg hlt => by
          rcases SJ.out with h9 | ⟨g9, h9, hg9⟩
          · rw [← h9]; exact hg
          · rw [h9] at hg; cases hg; omega
        have CJ4 := CJ.out.trans D2.out (fun g hlt hg => jfr g hg hlt)
        have f4 : Fresh w0 (.slice A4 n4 c4) := fun g hg => by
          rcases SJ4 with h | ⟨g9, h, hg9⟩
          · exact (VLT.out g (by rw [← h]; exact hg)).2
          · rw [h] at hg; cases hg
            exact Nat.le_trans HBW.out.size hg9
        have BJ4 : Below w0.heap.size w0 w4 := chg_below HBW.out CJ4 (fun g hg => (VLT.out g hg).2) HBW.out.size
        have hd4 : IsD w4 q lv L := HD1.out.frame CJ4 (d_off HD1.out O1.out)
        have XJ4 := CJ4.at XB.out (fun hF => by have := (VLT.out _ hF).1; have := BB.out; omega)
        have e0b := blk_c XJ4 0
        have e1b := blk_c XJ4 1
        have e2b := blk_c XJ4 2
        have e3b := blk_c XJ4 3
        have hrec := IH.out w4 y A4 c4 n4 (lj ++ [y]) (by have := yet_lt VJ.out.pre HY1.out HY2.out; have := HY.out; omega) BJ4 hd4 D1.out N4.out f4 (nodup_snoc (VJ.out.nd HND.out) HY1.out) (fun x hx => by
          rcases List.mem_append.1 hx with hx | hx
          · exact VJ.out.pid HLP.out HPI.out x hx
          · rw [List.mem_singleton.1 hx]; exact HLP.out y HY2.out)
        have HREC := Kp.mk hrec
        have C4 := Kp.mk CJ4
        have S4 := Kp.mk SJ4
        clear hrec CJ4 SJ4 f4 BJ4 hd4 XJ4 jfr c0b c1b c2b c3b D0 lbb
        go_wp2_with fail
        refine HREC.out.mono ?_
        rintro e w6 ⟨A6, c6, l6, n6, rfl, m6, o6, v6, cc6, s6⟩
        have VK := Kp.mk (VJ.out.go (fun x hx => (SS.out.2 x).1 hx) HYS.out HY1.out HY2.out HY3.out v6)
        have M6 := Kp.mk m6
        have O6 := Kp.mk o6
        have C6 : Kp (Chg (fun g => (Value.slice A n c).ownBlock = some g) w1 w6) := ⟨C4.out.trans cc6 (fun g hlt hg => by
          rcases S4.out with h9 | ⟨g9, h9, hg9⟩
          · rw [← h9]; exact hg
          · rw [h9] at hg; cases hg; omega)⟩
        have S6 : Kp (SameB w1 (.slice A n c) (.slice A6 n6 c6)) := ⟨by
          rcases s6 with h | ⟨g, h, hg⟩
          · rcases S4.out with h9 | ⟨g9, h9, hg9⟩
            · exact .inl (h.trans h9)
            · exact .inr ⟨g9, h.trans h9, hg9⟩
          · exact .inr ⟨g, h, Nat.le_trans C4.out.size hg⟩⟩
        clear m6 o6 v6 cc6 s6
        go_wp2
        go_roundw
        case rel => exact ⟨k + 1, A6, n6, c6, l6, by omega, by go_num, rfl, M6, O6, VK, C6, S6⟩
        case measure => simp [intOf]; omega
      · obtain rfl : k = ms := by omega
        go_wp2
        go_ret
        refine ⟨Aj, cj, lj, nj, rfl, NJ.out, OJ.out, VJ.out.end SS.out (by have := MS.out; omega), (Chg.of_below (bstep HBX.out HBX.out.size B1.out) NoF).mono (fun _ _ h => h.elim) |>.trans CJ.out (fun g _ hg => hg), ?_⟩
        rcases SJ.out with h | ⟨g, h, hg⟩
        · exact .inl h
        · exact .inr ⟨g, h, Nat.le_trans (Nat.le_of_lt WSZ.out) hg⟩
end Go.Proofs.YtameidoaenoppaaDoor

namespace Go.Proofs.YtameidoaenoppaaDoor
open Go.RowKit

theorem pids_snoc {D : List Dth} {k : Nat} {d : Dth} (hd : D[k]? = some d) : pids (D.take (k + 1)) = pids (D.take k) ++ [d.p] := by
  unfold pids
  rw [List.take_add_one, hd, List.map_append]
  rfl
theorem CaseM.rd1 {w w' : World} {A0 : Option Addr} {c0 : Nat} {ops : List OpM} {A1 : Option Addr} {c1 : Nat} {live : List Int} {A2 : Option Addr} {c2 : Nat} {traps : List Int} {A3 : Option Addr} {c3 : Nat} {vs : List Dv} {ds : List Dth} (h : CaseM w A0 c0 ops A1 c1 live A2 c2 traps A3 c3 vs ds) (hb : Below w.heap.size w w') {j : Nat} {d : Dth} (hd : ds[j]? = some d) :
    ∃ g o B k, A3 = some ⟨g, o, none⟩ ∧ w'.cell? ⟨g, o + j * 2, none⟩ = some (.int .i64 d.p) ∧ w'.cell? ⟨g, o + j * 2 + 1, none⟩ = some (.slice B d.r.length k) ∧ Src w' eCe B k d.r := by
  obtain ⟨y, hy⟩ : ∃ y, vs[j]? = some y := ⟨_, List.getElem?_eq_getElem (by rw [h.rd.len]; exact (List.getElem?_eq_some_iff.1 hd).1)⟩
  obtain ⟨p1, p2, p3⟩ := h.rd.at_ j y d hy hd
  cases A3 with
  | none => have := (h.s3.none rfl).1; rw [this] at hy; simp at hy
  | some a =>
    obtain ⟨g, o, rfl⟩ := h.s3.addr (by have := (List.getElem?_eq_some_iff.1 hy).1; omega)
    obtain ⟨y0, y1⟩ := (h.s3.below hb).dv j y hy
    rw [p1] at y0
    rw [p2] at y1
    exact ⟨g, o, _, _, rfl, y0, y1, p3.below hb⟩
set_option maxRecDepth 100000 in
set_option maxHeartbeats 16000000 in
theorem signalReach_any (w : World) (A0 : Option Addr) (c0 : Nat) (ops : List OpM) (A1 : Option Addr) (c1 : Nat) (live : List Int) (A2 : Option Addr) (c2 : Nat) (traps : List Int) (A3 : Option Addr) (c3 : Nat) (vs : List Dv) (ds : List Dth)
    (hm : CaseM w A0 c0 ops A1 c1 live A2 c2 traps A3 c3 vs ds) (hT : Tabs w) :
    Calls Tryd.prog 5 #[caseV A0 c0 ops.length A1 c1 live.length A2 c2 traps.length A3 c3 vs.length] w fun e w' => e = .returned (.bool true) ∧ Below w.heap.size w w' := by
  have HM := Kp.mk hm
  have HT := Kp.mk hT
  have HMB := Kp.mk (made_beg hm)
  clear hm hT
  obtain ⟨n0, h0⟩ : ∃ n, n = ops.length := ⟨_, rfl⟩
  obtain ⟨n1, h1⟩ : ∃ n, n = live.length := ⟨_, rfl⟩
  obtain ⟨n2, h2⟩ : ∃ n, n = traps.length := ⟨_, rfl⟩
  obtain ⟨n3, h3⟩ : ∃ n, n = vs.length := ⟨_, rfl⟩
  have N := Kp.mk (And.intro h0 (And.intro h1 (And.intro h2 h3)))
  unfold caseV
  rw [← h0, ← h1, ← h2, ← h3] at HMB ⊢
  clear h0 h1 h2 h3
  go_enter Tryd.func5, Tryd.ntmps5
  go_wp2_with fail
  refine HMB.out.mono ?_
  rintro e w2 ⟨p, bm, lm, rm, q, lv, ns, last, rfl, hbg⟩
  have HBG := Kp.mk hbg
  have bx := hbg.box
  rw [← N.out.1, ← N.out.2.1, ← N.out.2.2.1, ← N.out.2.2.2] at bx
  have b1 := blk_c bx 1
  have b2 := blk_c bx 2
  have b3 := blk_c bx 3
  have hsp := spread_all w2 p bm lm rm ns last A1 A2 A3 c1 c2 c3 live traps vs ds hbg.g (by have := hbg.last; omega) hbg.cm.s1 hbg.cm.s2 hbg.cm.s3 hbg.cm.rd (fun w' hc => HT.out.below (chg_below hbg.bel hc (fun g hg => Nat.le_of_lt (hbg.fg g hg)) hbg.bel.size))
    (by have := HM.out.n1; omega) (by have := HM.out.n2; omega) (by have := HM.out.n3; omega) HM.out.cc (fun d hd => by have := (HM.out.n4 d hd).2; omega)
  rw [← N.out.2.1, ← N.out.2.2.1, ← N.out.2.2.2] at hsp
  have HSP := Kp.mk hsp
  clear hbg bx hsp
  go_wp2_with fail
  refine HSP.out.mono ?_
  rintro e w3 (⟨hw, dv, sv, vs9, us9, rfl, k1, k2, k3, k4, k5⟩ | ⟨hw, rfl, hb⟩)
  rotate_left
  · have G3' := Kp.mk (HBG.out.below hb)
    have heb : (wrongE live traps ds != 0) = true := by simpa using hw
    obtain ⟨er, her⟩ : ∃ er, er = wrongE live traps ds := ⟨_, rfl⟩
    rw [← her] at heb ⊢
    have HAW := Kp.mk (awake_any w3 (HT.out.below G3'.out.bel))
    clear hw her hb b1 b2 b3
    go_wp2_with (go_at_call 19; refine HAW.out.mono ?_; rintro e w7 ⟨rfl, b7⟩; have B7 := Kp.mk (G3'.out.below b7).bel; clear b7)
    go_ret
    exact ⟨rfl, B7.out⟩
  have HW := Kp.mk hw
  obtain ⟨hbel, hcm, hid, hbx⟩ := HBG.out.spread HM.out k5
  have HB3 := Kp.mk hbel
  have HCM := Kp.mk hcm
  have HID := Kp.mk hid
  have OKR := Kp.mk ((okr_start (traps := traps) hw HBG.out.g.ok).rnds (traps := traps) live.length)
  have SRE := Kp.mk (fun x => sprd_reach (traps := traps) hw HBG.out.g.ok x)
  obtain ⟨D, hD⟩ : ∃ D, D = (sprd live traps ds ns).1.ds := ⟨_, rfl⟩
  have hdl : D.length ≤ 1099511627776 := by
    rw [hD]
    exact OKR.out.s.len (wrongE_ok hw).1
  have ND : Kp ((pids D).Nodup) := ⟨by rw [hD]; exact OKR.out.s.nodup⟩
  rw [← hD] at k1 SRE
  have K1 := Kp.mk k1
  obtain ⟨Dv1, cd, hv, hcd, hcm2, _⟩ := k1.own.shape
  unfold maxLen at hcm2
  obtain ⟨m, hm⟩ : ∃ m, m = D.length := ⟨_, rfl⟩
  have MM := Kp.mk hm
  rw [k1.len, ← hm] at hv hcd
  subst hv
  rw [← hm] at hdl
  rw [← N.out.1, ← N.out.2.1, ← N.out.2.2.1, ← N.out.2.2.2] at hbx
  have BX := Kp.mk hbx
  have DL : Kp (ds.length = n3) := ⟨by rw [N.out.2.2.2]; exact HM.out.rd.len.symm⟩
  have hn3 : n3 ≤ 1099511627776 := by
    rw [← DL.out]
    have := pids_len (wrongE_ok hw).2.2.2.2.1 (live_pid (wrongE_ok hw).2.2.1)
    unfold pids at this
    rwa [List.length_map] at this
  clear hw k1 k2 k3 k4 k5 hbel hcm hid hbx hm hD b1 b2 b3
  -- who has ended
  go_wp2
  go_loopw [8, 11, 43] (fun l _ i wr => ∃ (k : Nat) (B : Option Addr) (cc : Nat), k ≤ m ∧ i = .int .i64 k ∧ l = .slice B k cc ∧ Kp (Own wr 2 eI64 (.slice B k cc) (pids (D.take k))) ∧ Kp (Fresh w3 (.slice B k cc)) ∧ Kp (Below w3.heap.size w3 wr)) (fun _ _ i _ => m - (intOf i).toNat)
  case atStart => exact ⟨0, none, 0, Nat.zero_le _, rfl, rfl, ⟨Own.nil _ _ _⟩, ⟨Fresh.nil _ _ _⟩, ⟨Below.refl _ _⟩⟩
  case round =>
    obtain ⟨k, B, cc, hk, rfl, rfl, HO, HF, HB⟩ := hrel
    by_cases hlt : k < m
    · obtain ⟨d, hd⟩ : ∃ d, D[k]? = some d := ⟨_, List.getElem?_eq_getElem (by have := MM.out; omega)⟩
      obtain ⟨g, Bt, nt, kt, rfl, y0, y1⟩ := K1.out.rd HB.out hd
      have k0 : (0 : Int) ≤ (k : Int) := by omega
      have k1 : (k : Int) < (m : Int) := by omega
      have PS := Kp.mk (pids_snoc hd)
      have PL : Kp ((pids (D.take k)).length = k) := ⟨by unfold pids; rw [List.length_map, List.length_take]; have := MM.out; omega⟩
      have hbx : Below wr.heap.size wr (wr.alloc (.cells #[.int .i64 d.p, .slice Bt nt kt] 48)) := (Below.refl _ _).alloc (Nat.le_refl _) _
      have HBX := Kp.mk (bstep HB.out HB.out.size hbx)
      have OX := Kp.mk (HO.out.below hbx)
      clear hd hbx
      go_wp2_with (at_builtin; refine app1_ev T50 d.p rfl _ _ rfl OX.out rfl rfl rfl (by simp) rfl (by have := PL.out; omega) (by have := PL.out; omega) ?_; intro A4 n4 c4 w4 d0 d1 d2 d3; have D0 := d0; have D1 := Kp.mk d1; have D2 := Kp.mk d2; have D3 := Kp.mk d3; clear d0 d1 d2 d3)
      obtain rfl : n4 = k + 1 := by have h1 := D0.out; have := PL.out; omega
      go_roundw
      case rel => exact ⟨k + 1, A4, c4, by omega, by go_num, rfl, ⟨by rw [PS.out]; exact D1.out⟩, ⟨HF.out.app HBX.out.size D3.out⟩, ⟨chg_below HBX.out D2.out (fun g hg => HF.out g hg) HBX.out.size⟩⟩
      case measure => simp [intOf]; omega
    · obtain rfl : k = m := by omega
      have hta : D.take k = D := List.take_of_length_le (by have := MM.out; omega)
      rw [hta] at HO
      clear hta
      obtain ⟨wa, hwa⟩ : ∃ wa : World, wa = wr := ⟨_, rfl⟩
      rw [← hwa] at HO HB ⊢
      clear hwa
      have BXA := Kp.mk ((HB.out.block _ (lt_of_block BX.out)).trans BX.out)
      have bx3 := blk_c BXA.out 3
      go_wp2
      -- those handed in
      go_loopw [9, 13, 56] (fun l _ i wr => ∃ (t : Nat) (B2 : Option Addr) (cc2 : Nat), t ≤ n3 ∧ i = .int .i64 t ∧ l = .slice B2 t cc2 ∧ Kp (Own wr 2 eI64 (.slice B2 t cc2) (pids (ds.take t))) ∧ Kp (Fresh wa (.slice B2 t cc2)) ∧ Kp (Below wa.heap.size wa wr)) (fun _ _ i _ => n3 - (intOf i).toNat)
      case atStart => exact ⟨0, none, 0, Nat.zero_le _, rfl, rfl, ⟨Own.nil _ _ _⟩, ⟨Fresh.nil _ _ _⟩, ⟨Below.refl _ _⟩⟩
      case round =>
        clear bx3
        obtain ⟨t, B2, cc2, ht, rfl, rfl, HO2, HF2, HB2⟩ := hrel
        by_cases hlt2 : t < n3
        · obtain ⟨d, hd⟩ : ∃ d, ds[t]? = some d := ⟨_, List.getElem?_eq_getElem (by have := DL.out; omega)⟩
          obtain ⟨g, o, Bt, kt, rfl, y0, y1, _⟩ := HCM.out.rd1 (bstep HB.out HB.out.size HB2.out) hd
          have k0 : (0 : Int) ≤ (t : Int) := by omega
          have k1 : (t : Int) < (n3 : Int) := by omega
          have PS := Kp.mk (pids_snoc hd)
          have PL : Kp ((pids (ds.take t)).length = t) := ⟨by unfold pids; rw [List.length_map, List.length_take]; have := DL.out; omega⟩
          obtain ⟨rl, hrl⟩ : ∃ rl, rl = d.r.length := ⟨_, rfl⟩
          rw [← hrl] at y1
          have hbx : Below wr.heap.size wr (wr.alloc (.cells #[.int .i64 d.p, .slice Bt rl kt] 48)) := (Below.refl _ _).alloc (Nat.le_refl _) _
          have HBX := Kp.mk (bstep HB2.out HB2.out.size hbx)
          have OX := Kp.mk (HO2.out.below hbx)
          clear hd hbx hrl
          go_wp2_with (at_builtin; refine app1_ev T50 d.p rfl _ _ rfl OX.out rfl rfl rfl (by simp) rfl (by have := PL.out; omega) (by have := PL.out; omega) ?_; intro A4 n4 c4 w4 d0 d1 d2 d3; have D0 := d0; have D1 := Kp.mk d1; have D2 := Kp.mk d2; have D3 := Kp.mk d3; clear d0 d1 d2 d3)
          obtain rfl : n4 = t + 1 := by have h1 := D0.out; have := PL.out; omega
          go_roundw
          case rel => exact ⟨t + 1, A4, c4, by omega, by go_num, rfl, ⟨by rw [PS.out]; exact D1.out⟩, ⟨HF2.out.app HBX.out.size D3.out⟩, ⟨chg_below HBX.out D2.out (fun g hg => HF2.out g hg) HBX.out.size⟩⟩
          case measure => simp [intOf]; omega
        · obtain rfl : t = n3 := by omega
          have hta : ds.take t = ds := List.take_of_length_le (by have := DL.out; omega)
          rw [hta] at HO2
          clear hta
          obtain ⟨wb, hwb⟩ : ∃ wb : World, wb = wr := ⟨_, rfl⟩
          rw [← hwb] at HO2 HB2 ⊢
          clear hwb
          have HB3b := Kp.mk (bstep HB.out HB.out.size HB2.out)
          have HOb := Kp.mk (HO.out.below HB2.out)
          have BXB := Kp.mk ((HB3b.out.block _ (lt_of_block BX.out)).trans BX.out)
          have bx3 := blk_c BXB.out 3
          have hw0 : (pids ds).length = t := by unfold pids; rw [List.length_map]; exact DL.out
          have W0 : Kp (WInv (sn ns) live traps ds 0 (pids ds)) := ⟨WInv.start (wrongE_ok HW.out).2.2.2.2.1⟩
          have VLT : Kp (∀ g, (Value.slice B2 t cc2).ownBlock = some g → wa.heap.size ≤ g) := ⟨fun g hg => HF2.out g hg⟩
          have HW0 := Kp.mk hw0
          clear hw0
          go_wp2
          -- whom they reach
          go_loopw [9, 15, 69] (fun l _ i wr => ∃ (u : Nat) (B4 : Option Addr) (m4 cc4 : Nat) (W : List Int), u ≤ t ∧ i = .int .i64 u ∧ l = .slice B4 m4 cc4 ∧ Kp (m4 = W.length) ∧ Kp (Own wr 2 eI64 (.slice B4 m4 cc4) W) ∧ Kp (WInv (sn ns) live traps ds u W) ∧ Kp (Fresh wa (.slice B4 m4 cc4)) ∧ Kp (Chg (fun g => (Value.slice B2 t cc2).ownBlock = some g) wb wr) ∧ Kp (SameB wb (.slice B2 t cc2) (.slice B4 m4 cc4))) (fun _ _ i _ => t - (intOf i).toNat)
          case atStart => exact ⟨0, B2, t, cc2, pids ds, Nat.zero_le _, rfl, rfl, ⟨HW0.out.symm⟩, HO2, W0, HF2, ⟨Chg.refl _ _⟩, ⟨.inl rfl⟩⟩
          case round =>
            clear bx3
            obtain ⟨u, B4, m4, cc4, W, hu, rfl, rfl, MW, OW, WI, FW, CW, SW⟩ := hrel
            have HBU := Kp.mk (chg_below HB3b.out CW.out (fun g hg => by have h1 := VLT.out g hg; have h2 := HB.out.size; omega) HB3b.out.size)
            by_cases hut : u < t
            · obtain ⟨d, hd⟩ : ∃ d, ds[u]? = some d := ⟨_, List.getElem?_eq_getElem (by have := DL.out; omega)⟩
              obtain ⟨g, o, Bt, kt, rfl, y0, y1, ysr⟩ := HCM.out.rd1 HBU.out hd
              have k0 : (0 : Int) ≤ (u : Int) := by omega
              have k1 : (u : Int) < (t : Int) := by omega
              have DR : Kp (d.r.length ≤ 4398046511000) := ⟨(HM.out.n4 d (List.mem_of_getElem? hd)).2⟩
              have hbx : Below wr.heap.size wr (wr.alloc (.cells #[.int .i64 d.p, .slice Bt d.r.length kt] 48)) := (Below.refl _ _).alloc (Nat.le_refl _) _
              have XX := Kp.mk (blk_new wr (.cells #[.int .i64 d.p, .slice Bt d.r.length kt] 48))
              have hisd := dis_any (wr.alloc (.cells #[.int .i64 d.p, .slice Bt d.r.length kt] 48)) Bt kt d.r normalS (ysr.below hbx) (by have := DR.out; omega)
              unfold normalS at hisd
              obtain ⟨rl, hrl⟩ : ∃ rl, rl = d.r.length := ⟨_, rfl⟩
              rw [← hrl] at y1 hbx XX hisd
              have HBX := Kp.mk hbx
              have HD := Kp.mk hd
              obtain ⟨bb, hbb⟩ : ∃ bb, bb = wr.heap.size := ⟨_, rfl⟩
              have BB := Kp.mk hbb
              clear hd hbx ysr hrl hbb
              cases hnm : isA d.r normalS
              · have hnm' := hnm
                unfold normalS at hnm'
                rw [hnm'] at hisd
                have HIS := Kp.mk hisd
                have HNM := Kp.mk hnm
                clear hnm hnm' hisd
                go_wp2_with fail
                refine HIS.out.mono ?_
                rintro e w5 ⟨rfl, b5⟩
                have B5 := Kp.mk ((HBX.out.trans (b5.mono HBX.out.size)))
                have X5 := Kp.mk ((b5.block _ (lt_of_block XX.out)).trans XX.out)
                rw [← BB.out] at X5 ⊢
                have q0 := blk_c X5.out 0
                have BXU := Kp.mk ((B5.out.block _ (Nat.lt_of_lt_of_le (lt_of_block BX.out) HBU.out.size)).trans ((HBU.out.block _ (lt_of_block BX.out)).trans BX.out))
                have e0b := blk_c BXU.out 0
                have e1b := blk_c BXU.out 1
                have e2b := blk_c BXU.out 2
                have e3b := blk_c BXU.out 3
                have b05 : Below w3.heap.size w3 w5 := HBU.out.trans (B5.out.mono HBU.out.size)
                have hrec := reached_any w3 q lv (sn ns) live traps A1 A2 c1 c2 (.slice A0 n0 c0) (.slice (some ⟨g, o, none⟩) t c3) HCM.out.s1 HCM.out.s2 HM.out.n1 HM.out.n2 (wrongE_ok HW.out).1 HBG.out.g.ok.goodL (by have := HBG.out.g.ok.n1024; omega) (yet live W) w5 d.p B4 cc4 m4 W (Nat.le_refl _) b05 (HID.out.below b05) (OW.out.below B5.out) MW.out (FW.out.up HB.out.size) WI.out.nd (fun x hx => by
                  rcases WI.out.sound x hx with h | h
                  · exact live_pid (wrongE_ok HW.out).2.2.1 x h
                  · cases h with
                    | base a b => exact live_pid (wrongE_ok HW.out).2.2.1 _ (mem_pids a)
                    | step _ _ c _ _ => exact live_pid (wrongE_ok HW.out).1 _ c)
                rw [← N.out.2.1, ← N.out.2.2.1] at hrec
                have HREC := Kp.mk hrec
                clear hrec b5 b05
                go_wp2_with fail
                refine HREC.out.mono ?_
                rintro e w6 ⟨A6, c6, W6, n6, rfl, m6, o6, v6, cc6, s6⟩
                have VK := Kp.mk (WI.out.go HD.out HNM.out v6)
                have M6 := Kp.mk m6
                have O6 := Kp.mk o6
                have C6 : Kp (Chg (fun g => (Value.slice B2 t cc2).ownBlock = some g) wb w6) := ⟨(CW.out.trans (Chg.of_below B5.out NoF) (fun _ _ h => h.elim)).trans cc6 (fun g hlt hg => by
                  rcases SW.out with h9 | ⟨g9, h9, hg9⟩
                  · rw [← h9]; exact hg
                  · rw [h9] at hg; cases hg; omega)⟩
                have S6 : Kp (SameB wb (.slice B2 t cc2) (.slice A6 n6 c6)) := ⟨by
                  rcases s6 with h | ⟨g, h, hg⟩
                  · rcases SW.out with h9 | ⟨g9, h9, hg9⟩
                    · exact .inl (h.trans h9)
                    · exact .inr ⟨g9, h.trans h9, hg9⟩
                  · exact .inr ⟨g, h, Nat.le_trans CW.out.size (Nat.le_trans B5.out.size hg)⟩⟩
                have F6 : Kp (Fresh wa (.slice A6 n6 c6)) := ⟨fun g hg => by
                  rcases S6.out with h | ⟨g9, h, hg9⟩
                  · exact VLT.out g (by rw [← h]; exact hg)
                  · rw [h] at hg; cases hg
                    exact Nat.le_trans HB2.out.size hg9⟩
                clear m6 o6 v6 cc6 s6
                go_wp2
                go_roundw
                case rel => exact ⟨u + 1, A6, n6, c6, W6, by omega, by go_num, rfl, M6, O6, VK, F6, C6, S6⟩
                case measure => simp [intOf]; omega
              · have hnm' := hnm
                unfold normalS at hnm'
                rw [hnm'] at hisd
                have HIS := Kp.mk hisd
                have VK := Kp.mk (WI.out.skip HD.out hnm)
                clear hnm hnm' hisd
                go_wp2_with fail
                refine HIS.out.mono ?_
                rintro e w5 ⟨rfl, b5⟩
                have B5 := Kp.mk ((HBX.out.trans (b5.mono HBX.out.size)))
                have O5 := Kp.mk (OW.out.below B5.out)
                clear b5
                go_wp2
                go_roundw
                case rel => exact ⟨u + 1, B4, m4, cc4, W, by omega, by go_num, rfl, MW, O5, VK, FW, ⟨CW.out.trans (Chg.of_below B5.out NoF) (fun _ _ h => h.elim)⟩, SW⟩
                case measure => simp [intOf]; omega
            · obtain rfl : u = t := by omega
              obtain ⟨hlen, hsub⟩ := WI.out.len (by have := DL.out; omega) ND.out (fun x => SRE.out x)
              have hmk : m4 = k := by
                rw [MW.out, ← hlen]
                unfold pids
                rw [List.length_map]
                exact MM.out.symm
              have HSUB := Kp.mk hsub
              have HW9 : Kp (W.length = k) := ⟨by rw [← hmk]; exact MW.out.symm⟩
              have HP9 : Kp ((pids D).length = k) := ⟨by unfold pids; rw [List.length_map]; exact MM.out.symm⟩
              subst hmk
              have HOC := Kp.mk (HOb.out.frame CW.out (fun g hg hF => by have h1 := VLT.out g hF; have h2 := HO.out.lt hg; omega))
              clear hlen hsub
              obtain ⟨wc, hwc⟩ : ∃ wc : World, wc = wr := ⟨_, rfl⟩
              rw [← hwc] at HOC OW HBU ⊢
              clear hwc
              go_wp2
              go_loop [17, 90] (fun _ i => ∃ (j : Nat), j ≤ m4 ∧ i = .int .i64 j) (fun _ i => m4 - (intOf i).toNat)
              case atStart => exact ⟨0, Nat.zero_le _, rfl⟩
              case round =>
                obtain ⟨j, hj, rfl⟩ := hrel
                by_cases hjt : j < m4
                · obtain ⟨x, hx⟩ : ∃ x, W[j]? = some x := ⟨_, List.getElem?_eq_getElem (by have := HW9.out; omega)⟩
                  obtain ⟨ad, rfl⟩ : ∃ ad, B4 = some ad := by
                    cases B4 with
                    | none => have h9 := ((OW.out.src rfl).none rfl).1; rw [h9] at hx; simp at hx
                    | some ad => exact ⟨ad, rfl⟩
                  obtain ⟨g5, o5, rfl⟩ := (OW.out.src rfl).addr (by have := HW9.out; omega)
                  have z0 := (OW.out.src rfl).i64 j x hx
                  have hh := has_any wc B cc (pids D) x (HOC.out.src rfl) (by have := HP9.out; omega)
                  rw [decide_eq_true (HSUB.out x (List.mem_of_getElem? hx)), HP9.out] at hh
                  have HH := Kp.mk hh
                  have j0 : (0 : Int) ≤ (j : Int) := by omega
                  have j1 : (j : Int) < (m4 : Int) := by omega
                  clear hx hh
                  go_wp2_with fail
                  refine HH.out.mono ?_
                  rintro e w7 ⟨rfl, hw7⟩
                  obtain rfl := hw7.symm
                  go_wp2
                  go_round
                  case rel => exact ⟨j + 1, by omega, by go_num⟩
                  case measure => simp [intOf]; omega
                · obtain rfl : j = m4 := by omega
                  have B9 := Kp.mk (bstep HB3.out HB3.out.size HBU.out)
                  have HAW := Kp.mk (awake_any wc (HT.out.below B9.out))
                  go_wp2_with (go_at_call 19; refine HAW.out.mono ?_; rintro e wy ⟨rfl, by_⟩; have BY := Kp.mk (bstep B9.out B9.out.size by_); clear by_)
                  go_ret
                  exact ⟨rfl, BY.out⟩
end Go.Proofs.YtameidoaenoppaaDoor
