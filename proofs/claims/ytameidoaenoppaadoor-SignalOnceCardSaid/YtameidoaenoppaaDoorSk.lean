/- Plain: where nobody else ends; rows of deaths whose texts lie in rows of cells; no condition. -/
import Derived.Test.YtameidoaenoppaaDoorMd
import Derived.Test.YtameidoaenoppaaDoorAw
namespace Go.Proofs.YtameidoaenoppaaDoor
open Go.RowKit

section
variable {live traps : List Int} {d : Dth} {s : SS} {b : Bd}
theorem alive_live {ds : List Dth} {q : Int} (h : aliveB live ds q = true) : q ∈ live := by
  unfold aliveB at h
  rw [Bool.and_eq_true] at h
  exact of_decide_eq_true h.1
theorem bond1_keep (h : isA d.r normalS = true ∨ ∀ q ∈ live, q ∈ traps) : (bond1 live traps d s b).ds = s.ds := by
  unfold bond1
  split
  · rfl
  · rename_i ha
    split
    · rfl
    · split
      · rfl
      · rename_i ht
        split
        · rfl
        · rename_i hn
          rcases h with h | h
          · exact absurd h hn
          · exact absurd (h _ (alive_live (by simpa using ha))) ht
theorem fold_keep (h : isA d.r normalS = true ∨ ∀ q ∈ live, q ∈ traps) : ∀ (l : List Bd) (s : SS), (l.foldl (bond1 live traps d) s).ds = s.ds
  | [], _ => rfl
  | b :: l, s => (fold_keep h l (bond1 live traps d s b)).trans (bond1_keep h)
theorem rnds_keep {ds : List Dth} (ns : List NB) (h : (∀ d ∈ ds, isA d.r normalS = true) ∨ ∀ q ∈ live, q ∈ traps) : ∀ i, (rnds live traps i (⟨ds, []⟩, ns)).1.ds = ds
  | 0 => rfl
  | i + 1 => by
    have ih := rnds_keep ns h i
    show (rnd live traps i (rnds live traps i (⟨ds, []⟩, ns))).1.ds = ds
    unfold rnd
    split
    · exact ih
    · rename_i d hd
      rw [ih] at hd
      exact (fold_keep (h.imp (fun h => h d (List.mem_of_getElem? hd)) (fun h => h)) _ _).trans ih
theorem sprd_keep {ds : List Dth} {ns : List NB} (h : (∀ d ∈ ds, isA d.r normalS = true) ∨ ∀ q ∈ live, q ∈ traps) : (sprd live traps ds ns).1.ds = ds := rnds_keep ns h _
end
theorem Src.blk {α : Type} {E : El α} {w w' : World} {g o c : Nat} {l : List α} (h : Src w E (some ⟨g, o, Option.none⟩) c l) (hb : w'.heap[g]? = w.heap[g]?) : Src w' E (some ⟨g, o, Option.none⟩) c l :=
  ⟨fun ad ha j u hu => by
    cases ha
    have h1 := h.cell _ rfl j u hu
    rw [Addr.add_lit] at h1 ⊢
    unfold World.cell? at h1 ⊢
    simp only at h1 ⊢
    rw [hb]
    exact h1, h.none⟩
/-- A text in a row of cells. -/
structure TxK (w : World) (x : Dv) (r : List Ce) : Prop where
  n : x.n = r.length
  src : Src w eCe x.A x.c r
  at_ : ∃ g cur, x.A = some ⟨g, 0, none⟩ ∧ w.heap[g]? = some (.cells cur 64 (0, 0))
theorem TxK.frame {w w' : World} {x : Dv} {r : List Ce} {F : Nat → Prop} (h : TxK w x r) (hc : Chg F w w') (hF : Off w F 64) : TxK w' x r := by
  obtain ⟨g, cur, h1, h2⟩ := h.at_
  have hb : w'.heap[g]? = w.heap[g]? := hc.block g (lt_of_block h2) (fun hf => hF g cur hf h2)
  refine ⟨h.n, ?_, g, cur, h1, hb.trans h2⟩
  have := h.src
  rw [h1] at this ⊢
  exact this.blk hb
theorem TxK.below {w w' : World} {x : Dv} {r : List Ce} (h : TxK w x r) (hb : Below w.heap.size w w') : TxK w' x r := h.frame (Chg.of_below hb NoF) (fun _ _ h => h.elim)
/-- A row of deaths of one's own, whose texts lie in rows of cells. -/
structure FirM (w0 w : World) (v : Value) (us : List Dv) (ds : List Dth) : Prop where
  own : Own w 48 eDv v us
  len : us.length = ds.length
  tx : ∀ (i : Nat) x d, us[i]? = some x → ds[i]? = some d → x.p = d.p ∧ TxK w x d.r
  fr : Fresh w0 v
section
variable {w0 w w' : World} {v : Value} {us : List Dv} {ds : List Dth}
theorem FirM.rd (h : FirM w0 w v us ds) : RdD w us ds := ⟨h.len, fun i x d hx hd => ⟨(h.tx i x d hx hd).1, (h.tx i x d hx hd).2.n, (h.tx i x d hx hd).2.src⟩⟩
theorem FirM.frame {F : Nat → Prop} (h : FirM w0 w v us ds) (hc : Chg F w w') (h1 : Off w F 48) (h2 : Off w F 64) : FirM w0 w' v us ds :=
  ⟨h.own.frame hc (h.own.off h1), h.len, fun i x d hx hd => ⟨(h.tx i x d hx hd).1, (h.tx i x d hx hd).2.frame hc h2⟩, h.fr⟩
theorem FirM.below (h : FirM w0 w v us ds) (hb : Below w.heap.size w w') : FirM w0 w' v us ds := h.frame (Chg.of_below hb NoF) (fun _ _ h => h.elim) (fun _ _ h => h.elim)
theorem CopM.fir (h : CopM w0 w v us ds) : FirM w0 w v us ds := ⟨h.own, h.len, fun i x d hx hd => by
  obtain ⟨h1, g, h2, h3, _⟩ := h.tx i x d hx hd
  obtain ⟨cur, hcur⟩ := h3.own.blk
  exact ⟨h1, h3.hn, by rw [h2]; exact h3.src, g, cur, h2, hcur⟩, h.fr⟩
/-- Another reason in a place of the row. -/
theorem FirM.put {w1 : World} {g n c : Nat} {k : Nat} {x : Dv} {d : Dth} {r : List Ce} {A : Option Addr} {c1 m : Nat} (h : FirM w0 w (.slice (some ⟨g, 0, none⟩) n c) us ds) (hb : Below w.heap.size w w1) (hn : n = us.length) (hx : us[k]? = some x) (hd : ds[k]? = some d) (ht : TxK w1 ⟨x.p, A, m, c1⟩ r) :
    FirM w0 (w1.setCell ⟨g, k * 2 + 1, none⟩ (.slice A m c1)) (.slice (some ⟨g, 0, none⟩) n c) (us.set k ⟨x.p, A, m, c1⟩) (ds.set k ⟨d.p, r⟩) := by
  have h1 := h.below hb
  obtain ⟨hk, rfl⟩ := List.getElem?_eq_some_iff.1 hx
  obtain ⟨hkd, rfl⟩ := List.getElem?_eq_some_iff.1 hd
  have hc := chg_cell w1 g (k * 2 + 1) (.slice A m c1)
  have off : Off w1 (fun k => k = g) 64 := fun g' cur hg' hcur => by
    obtain ⟨cur', h9⟩ := h1.own.blk
    rw [hg', h9] at hcur; cases hcur
  refine ⟨h1.own.set hn k 1 _ _ hk (by decide) (by simp [eDv]), by rw [List.length_set, List.length_set]; exact h.len, fun i y e hy he => ?_, h.fr⟩
  rw [List.getElem?_set] at hy he
  by_cases hki : k = i
  · subst hki
    rw [if_pos rfl, if_pos hk] at hy
    rw [if_pos rfl, if_pos hkd] at he
    cases hy; cases he
    exact ⟨(h.tx k _ _ hx hd).1, ht.frame hc off⟩
  · rw [if_neg hki] at hy he
    exact ⟨(h1.tx i y e hy he).1, (h1.tx i y e hy he).2.frame hc off⟩
theorem OwnT.fir {vs : List Dv} (h : OwnT w0 w 48 v vs ds) (h1 : ∀ d ∈ ds, 1 ≤ d.r.length) : FirM w0 w v vs ds := ⟨h.own, h.len, fun i x d hx hd => by
  obtain ⟨k1, k2, k3⟩ := h.tx i x d hx hd
  refine ⟨k1, k2, k3.src rfl, ?_⟩
  obtain ⟨A, c, hv, _, _, h5, h6⟩ := k3.shape
  unfold tb at hv k3
  rw [k2] at hv
  cases hv
  cases hA : x.A with
  | none => have := (h5 hA).1; have := h1 d (List.mem_of_getElem? hd); rw [(h5 hA).1] at this; simp at this
  | some a =>
    obtain ⟨g, rfl⟩ := h6 a hA
    rw [hA] at k3
    obtain ⟨cur, hcur⟩ := k3.blk
    exact ⟨g, cur, rfl, hcur⟩, h.fr⟩
end
theorem offG {w : World} {p bm lm rm : Nat} {ns : List NB} {last : Int} (h : IsG w p bm lm rm ns last) {T : TypeId} (hT : T ≠ 94) : Off w (FG p bm lm rm) T := fun g cur hF hg => by
  rcases hF with rfl | rfl | rfl | rfl
  · rw [h.g.blk] at hg; cases hg; exact hT rfl
  · obtain ⟨a, c, hb⟩ := h.g.mb.blk; rw [hb] at hg; cases hg
  · obtain ⟨a, c, hb⟩ := h.g.ml.blk; rw [hb] at hg; cases hg
  · obtain ⟨a, c, hb⟩ := h.g.mr.blk; rw [hb] at hg; cases hg
end Go.Proofs.YtameidoaenoppaaDoor
