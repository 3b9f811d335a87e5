/- What lies in memory while Spread of package signal runs, and how dies, a message and an end turn it. -/
import Derived.Test.YtameidoaenoppaaGreatDoorSp
import Derived.Test.YtameidoaenoppaaGreatDoorSd
namespace Go.Proofs.YtameidoaenoppaaGreatDoor
open Go.RowKit Go.Shelf

abbrev tb (x : Dv) : Value := .slice x.A x.n x.c
def Off (w : World) (F : Nat → Prop) (T : TypeId) : Prop := ∀ g cur, F g → w.heap[g]? ≠ some (.cells cur T (0, 0))
/-- A row of new entries, each with a new text of its own. -/
structure OwnT (w0 w : World) (T : TypeId) (v : Value) (vs : List Dv) (ds : List Dth) : Prop where
  own : Own w T eDv v vs
  len : vs.length = ds.length
  tx : ∀ (i : Nat) x d, vs[i]? = some x → ds[i]? = some d → x.p = d.p ∧ x.n = d.r.length ∧ Own w 63 eCe (tb x) d.r
  fr : Fresh w0 v
  frs : ∀ x ∈ vs, Fresh w0 (tb x)
def Ap (l : List Dv) : Prop := l.Pairwise (fun x y => ∀ g, (tb x).ownBlock = some g → (tb y).ownBlock ≠ some g)
theorem Ap.mid {a b : List Dv} {x : Dv} (h : Ap (a ++ b)) (hx : ∀ y ∈ a ++ b, ∀ g, (tb y).ownBlock = some g → (tb x).ownBlock ≠ some g) : Ap (a ++ [x] ++ b) := by
  unfold Ap at h ⊢
  rw [List.pairwise_append] at h ⊢
  obtain ⟨h1, h2, h3⟩ := h
  refine ⟨?_, h2, ?_⟩
  · rw [List.pairwise_append]
    exact ⟨h1, List.pairwise_singleton _ _, fun y hy z hz => by rw [List.mem_singleton.1 hz]; exact hx y (List.mem_append_left _ hy)⟩
  · intro y hy z hz
    rcases List.mem_append.1 hy with hy | hy
    · exact h3 y hy z hz
    · rw [List.mem_singleton.1 hy]
      exact fun g hg hg' => hx z (List.mem_append_right _ hz) g hg' hg
section
variable {w0 w w' : World} {T : TypeId} {v v' : Value} {vs : List Dv} {ds : List Dth} {F : Nat → Prop}
theorem Own.off {α : Type} {E : El α} {l : List α} (h : Own w T E v l) (hF : Off w F T) : ∀ g, v.ownBlock = some g → ¬ F g := fun g hg hf => by
  obtain ⟨cur, hc⟩ := h.blk' hg
  exact hF g cur hf hc
theorem OwnT.txt (h : OwnT w0 w T v vs ds) {x : Dv} (hx : x ∈ vs) : ∃ r, Own w 63 eCe (tb x) r := by
  obtain ⟨i, hi, he⟩ := List.mem_iff_getElem.1 hx
  exact ⟨_, (h.tx i x (ds[i]'(h.len ▸ hi)) (by rw [List.getElem?_eq_getElem hi, he]) (List.getElem?_eq_getElem _)).2.2⟩
theorem OwnT.frame (h : OwnT w0 w T v vs ds) (hc : Chg F w w') (h1 : ∀ g, v.ownBlock = some g → ¬ F g) (h2 : ∀ x ∈ vs, ∀ g, (tb x).ownBlock = some g → ¬ F g) : OwnT w0 w' T v vs ds :=
  ⟨h.own.frame hc h1, h.len, fun i x d hx hd => ⟨(h.tx i x d hx hd).1, (h.tx i x d hx hd).2.1, (h.tx i x d hx hd).2.2.frame hc (h2 x (List.mem_of_getElem? hx))⟩, h.fr, h.frs⟩
theorem OwnT.off (h : OwnT w0 w T v vs ds) (hc : Chg F w w') (h1 : Off w F T) (h2 : Off w F 63) : OwnT w0 w' T v vs ds :=
  h.frame hc (h.own.off h1) fun x hx => by
    obtain ⟨r, hr⟩ := h.txt hx
    exact hr.off h2
theorem OwnT.below (h : OwnT w0 w T v vs ds) (hb : Below w.heap.size w w') : OwnT w0 w' T v vs ds := h.frame (Chg.of_below hb NoF) (fun _ _ h => h) (fun _ _ _ _ h => h)
theorem OwnT.snoc (h : OwnT w0 w T v vs ds) (hs : w0.heap.size ≤ w.heap.size) (hc : Chg F w w') (h2 : Off w F 63) {x : Dv} {d : Dth} (ho : Own w' T eDv v' (vs ++ [x])) (hx : x.p = d.p ∧ x.n = d.r.length ∧ Own w' 63 eCe (tb x) d.r) (hf : Fresh w (tb x))
    (h3 : v'.ownBlock = v.ownBlock ∨ ∃ g, v'.ownBlock = some g ∧ w.heap.size ≤ g) : OwnT w0 w' T v' (vs ++ [x]) (ds ++ [d]) := by
  refine ⟨ho, by rw [List.length_append, List.length_append, h.len]; rfl, fun i y e hy he => ?_, h.fr.app hs h3, fun y hy => ?_⟩
  · rcases Nat.lt_or_ge i vs.length with hi | hi
    · rw [List.getElem?_append_left hi] at hy
      rw [List.getElem?_append_left (h.len ▸ hi)] at he
      obtain ⟨a1, a2, a3⟩ := h.tx i y e hy he
      exact ⟨a1, a2, a3.frame hc (a3.off h2)⟩
    · rw [List.getElem?_append_right hi] at hy
      rw [List.getElem?_append_right (h.len ▸ hi)] at he
      obtain ⟨hi1, hy⟩ := List.getElem?_eq_some_iff.1 hy
      obtain ⟨hi2, he⟩ := List.getElem?_eq_some_iff.1 he
      simp only [List.length_singleton] at hi1
      simp only [List.getElem_singleton] at hy he
      subst hy; subst he
      exact hx
  · rcases List.mem_append.1 hy with hy | hy
    · exact h.frs y hy
    · rw [List.mem_singleton.1 hy]; exact fun g hg => Nat.le_trans hs (hf g hg)
end
/-- The state in memory. -/
structure SI (w0 w : World) (p bm lm rm am tm bA bT bD bS : Nat) (live traps : List Int) (s : SS) (ns : List NB) (last : Int) (dv sv : Value) (vs us : List Dv) (ea et : List (Int × Value)) : Prop where
  g : IsG w p bm lm rm ns last
  xA : Boxed w bA 61 (.map (some am))
  xT : Boxed w bT 61 (.map (some tm))
  xD : Boxed w bD 24 dv
  xS : Boxed w bS 33 sv
  mA : IsMapV K2 w am ea
  mT : IsMapV K2 w tm et
  lA : ∀ q, look ea q = if aliveB live s.ds q = true then some (.bool true) else none
  lT : ∀ q, look et q = if q ∈ traps then some (.bool true) else none
  d : OwnT w0 w 48 dv vs s.ds
  t : OwnT w0 w 51 sv us s.ts
  ap : Ap (vs ++ us)
  new : w0.heap.size ≤ am ∧ w0.heap.size ≤ tm ∧ w0.heap.size ≤ bA ∧ w0.heap.size ≤ bT ∧ w0.heap.size ≤ bD ∧ w0.heap.size ≤ bS
  old : ∀ g, FG p bm lm rm g → g < w0.heap.size
  ne : am ≠ tm
  chg : Chg (FG p bm lm rm) w0 w
section
variable {w0 w w' : World} {p bm lm rm am tm bA bT bD bS : Nat} {live traps : List Int} {s : SS} {ns : List NB} {last : Int} {dv sv : Value} {vs us : List Dv} {ea et : List (Int × Value)}
theorem off_lt {F : Nat → Prop} {b : Nat} {c : Array Value} {T : TypeId} (hF : Off w F T) (hb : w.heap[b]? = some (.cells c T (0, 0))) : ¬ F b := fun hf => hF b c hf hb
theorem SI.below (h : SI w0 w p bm lm rm am tm bA bT bD bS live traps s ns last dv sv vs us ea et) (hb : Below w.heap.size w w') : SI w0 w' p bm lm rm am tm bA bT bD bS live traps s ns last dv sv vs us ea et :=
  have hk {b : Nat} {t : TypeId} {v : Value} (h : Boxed w b t v) : Boxed w' b t v := (Chg.of_below hb NoF).at h (fun h => h)
  ⟨h.g.below hb, hk h.xA, hk h.xT, hk h.xD, hk h.xS, h.mA.below hb, h.mT.below hb, h.lA, h.lT, h.d.below hb, h.t.below hb, h.ap, h.new, h.old, h.ne, h.chg.trans (Chg.of_below hb NoF) (fun _ _ h => h.elim)⟩
/-- An end turns the graph alone. -/
theorem SI.ended (h : SI w0 w p bm lm rm am tm bA bT bD bS live traps s ns last dv sv vs us ea et) {ns' : List NB} {last' : Int} (hc : Chg (FG p bm lm rm) w w') (hg : IsG w' p bm lm rm ns' last') : SI w0 w' p bm lm rm am tm bA bT bD bS live traps s ns' last' dv sv vs us ea et := by
  have hn {g : Nat} (h1 : w0.heap.size ≤ g) : ¬ FG p bm lm rm g := fun hf => by have := h.old g hf; omega
  obtain ⟨n1, n2, n3, n4, n5, n6⟩ := h.new
  exact ⟨hg, hc.at h.xA (hn n3), hc.at h.xT (hn n4), hc.at h.xD (hn n5), hc.at h.xS (hn n6), h.mA.frame hc (hn n1), h.mT.frame hc (hn n2), h.lA, h.lT,
    h.d.frame hc (fun g hg => hn (h.d.fr g hg)) (fun x hx g hg => hn (h.d.frs x hx g hg)), h.t.frame hc (fun g hg => hn (h.t.fr g hg)) (fun x hx g hg => hn (h.t.frs x hx g hg)), h.ap, h.new, h.old, h.ne, h.chg.then hc⟩
theorem SI.fresh_ap (h : SI w0 w p bm lm rm am tm bA bT bD bS live traps s ns last dv sv vs us ea et) {x : Dv} (hf : Fresh w (tb x)) : ∀ y ∈ vs ++ us, ∀ g, (tb y).ownBlock = some g → (tb x).ownBlock ≠ some g := fun y hy g hg hx => by
  have h1 := hf g hx
  rcases List.mem_append.1 hy with hy | hy
  · obtain ⟨r, hr⟩ := h.d.txt hy
    have := hr.lt hg
    omega
  · obtain ⟨r, hr⟩ := h.t.txt hy
    have := hr.lt hg
    omega
theorem alive_snoc (live : List Int) (ds : List Dth) (q : Int) (r : List Ce) (y : Int) : aliveB live (ds ++ [⟨q, r⟩]) y = (aliveB live ds y && !decide (y = q)) := by
  unfold aliveB pids
  rw [List.map_append, Bool.eq_iff_iff]
  simp [and_assoc]
theorem SI.die (h : SI w0 w p bm lm rm am tm bA bT bD bS live traps s ns last dv sv vs us ea et) {q : Int} {r : List Ce} {e : Ending} (hp : DiesPost w am bD ea dv vs q r e w') :
    ∃ dv' x, SI w0 w' p bm lm rm am tm bA bT bD bS live traps { s with ds := s.ds ++ [⟨q, r⟩] } ns last dv' sv (vs ++ [x]) us (cut ea q) et ∧ (dv'.ownBlock = dv.ownBlock ∨ ∃ g, dv'.ownBlock = some g ∧ w.heap.size ≤ g) := by
  obtain ⟨_, dv', A, c, h1, h2, h3, h4, h5, h6, h7⟩ := hp
  obtain ⟨n1, n2, n3, n4, n5, n6⟩ := h.new
  have off : ∀ T : TypeId, T ≠ 24 → T ≠ 48 → Off w (FDi am bD dv) T := fun T t1 t2 g cur hF hg => by
    rcases hF with rfl | rfl | hF
    · obtain ⟨a, c, hb⟩ := h.mA.blk
      rw [hb] at hg; cases hg
    · have := h.xD
      unfold Boxed at this
      rw [this] at hg; cases hg; exact t1 rfl
    · exact h.d.own.ne hg (fun e => t2 e.symm) hF
  have hFG : ∀ g, FDi am bD dv g → w0.heap.size ≤ g := fun g hg => by
    rcases hg with rfl | rfl | hg
    · exact n1
    · exact n5
    · exact h.d.fr g hg
  have hs := h.chg.size
  have o24 := off 63 (by decide) (by decide)
  refine ⟨dv', ⟨q, A, r.length, c⟩, ⟨h.g.g.frame h7 (fun g hg hF => ?_) |> fun x => ⟨x, h.g.ok⟩, h7.at h.xA (off_lt (off _ (by decide) (by decide)) h.xA), h7.at h.xT (off_lt (off _ (by decide) (by decide)) h.xT), h1, h7.at h.xS (off_lt (off _ (by decide) (by decide)) h.xS), h2, h.mT.frame h7 (fun hF => ?_), fun y => ?_, h.lT,
    h.d.snoc hs h7 o24 h3 ⟨rfl, rfl, h4⟩ h5 h6, h.t.off h7 (off _ (by decide) (by decide)) o24, h.ap.mid (h.fresh_ap h5), h.new, h.old, h.ne, h.chg.trans h7 (fun g hg hF => by have := hFG g hF; omega)⟩, h6⟩
  · have a1 := h.old g hg
    have a2 := hFG g hF
    omega
  · rcases hF with hF | hF | hF
    · exact h.ne hF.symm
    · exact map_ne h.mT h.xD hF.symm
    · obtain ⟨cur, hcur⟩ := h.d.own.blk' hF
      exact map_ne h.mT hcur rfl
  · rw [alive_snoc]
    by_cases hy : y = q
    · subst hy
      rw [look_cut_same]; simp
    · rw [look_cut_other hy, h.lA]; simp [hy]
/-- A message more. -/
theorem SI.tell {w1 w2 : World} (h : SI w0 w p bm lm rm am tm bA bT bD bS live traps s ns last dv sv vs us ea et) {q : Int} {m : List Ce} {A : Option Addr} {c : Nat} {sv' : Value} (hb : Below w.heap.size w w1) (ht : Own w1 63 eCe (.slice A m.length c) m) (hf : Fresh w (.slice A m.length c))
    (h3 : Own w2 51 eDv sv' (us ++ [⟨q, A, m.length, c⟩])) (hc : Chg (fun g => sv.ownBlock = some g) w1 w2) (h4 : sv'.ownBlock = sv.ownBlock ∨ ∃ g, sv'.ownBlock = some g ∧ w1.heap.size ≤ g) :
    Boxed w2 bS 33 sv ∧ SI w0 (w2.setCell ⟨bS, 0, none⟩ sv') p bm lm rm am tm bA bT bD bS live traps { s with ts := s.ts ++ [⟨q, m⟩] } ns last dv sv' vs (us ++ [⟨q, A, m.length, c⟩]) ea et := by
  have k := h.below hb
  obtain ⟨n1, n2, n3, n4, n5, n6⟩ := h.new
  have hbS : Boxed w2 bS 33 sv := hc.at k.xS (k.t.own.ne k.xS (by decide))
  have h7 : Chg (fun g => g = bS ∨ sv.ownBlock = some g) w1 (w2.setCell ⟨bS, 0, none⟩ sv') := (hc.mono (fun _ _ h => .inr h)).set (p := ⟨bS, 0, none⟩) (.inl (.inl rfl)) sv'
  have off : ∀ T : TypeId, T ≠ 33 → T ≠ 51 → Off w1 (fun g => g = bS ∨ sv.ownBlock = some g) T := fun T t1 t2 g cur hF hg => by
    rcases hF with rfl | hF
    · have := k.xS
      unfold Boxed at this
      rw [this] at hg; cases hg; exact t1 rfl
    · exact k.t.own.ne hg (fun e => t2 e.symm) hF
  have hFG : ∀ g, (g = bS ∨ sv.ownBlock = some g) → w0.heap.size ≤ g := fun g hg => by
    rcases hg with rfl | hg
    · exact n6
    · exact h.t.fr g hg
  have hs := k.chg.size
  have o24 := off 63 (by decide) (by decide)
  have hmap : ∀ {b : Nat} {es : List (Int × Value)}, IsMapV K2 w1 b es → ¬ (b = bS ∨ sv.ownBlock = some b) := fun {b es} hm hF => by
    rcases hF with hF | hF
    · exact map_ne hm k.xS hF.symm
    · obtain ⟨cur, hcur⟩ := k.t.own.blk' hF
      exact map_ne hm hcur rfl
  have hne1 : sv'.ownBlock ≠ some bS := h3.ne hbS (by decide)
  have ht' : Own (w2.setCell ⟨bS, 0, none⟩ sv') 63 eCe (.slice A m.length c) m := ht.frame h7 (ht.off o24)
  have hT : OwnT w0 (w2.setCell ⟨bS, 0, none⟩ sv') 51 sv' (us ++ [⟨q, A, m.length, c⟩]) (s.ts ++ [⟨q, m⟩]) := by
    have a1 := h.t.snoc (F := fun g => g = bS ∨ sv.ownBlock = some g) (w' := w2.setCell ⟨bS, 0, none⟩ sv') (x := ⟨q, A, m.length, c⟩) (d := ⟨q, m⟩) h.chg.size ((Chg.of_below hb NoF).mono (fun _ _ h => h.elim) |>.trans h7 (fun _ _ h => h)) (fun g cur hF hg => o24 g cur hF ((Chg.of_below hb NoF).at hg (fun h => h))) (h3.set_ne hne1 _) ⟨rfl, rfl, ht'⟩ hf (by
      rcases h4 with h4 | ⟨g, h4, h5⟩
      · exact .inl h4
      · exact .inr ⟨g, h4, Nat.le_trans hb.size h5⟩)
    exact a1
  refine ⟨hbS, ⟨k.g.g.frame h7 (fun g hg hF => ?_), k.g.ok⟩, h7.at k.xA (off_lt (off _ (by decide) (by decide)) k.xA), h7.at k.xT (off_lt (off _ (by decide) (by decide)) k.xT), h7.at k.xD (off_lt (off _ (by decide) (by decide)) k.xD), hbS.set sv', k.mA.frame h7 (hmap k.mA), k.mT.frame h7 (hmap k.mT), h.lA, h.lT,
    k.d.off h7 (off _ (by decide) (by decide)) o24, hT, ?_, h.new, h.old, h.ne, k.chg.trans h7 (fun g hg hF => by have := hFG g hF; omega)⟩
  · have a1 := h.old g hg
    have a2 := hFG g hF
    omega
  · have := Ap.mid (a := vs ++ us) (b := []) (x := ⟨q, A, m.length, c⟩) (by rw [List.append_nil]; exact h.ap) (by rw [List.append_nil]; exact h.fresh_ap hf)
    rw [List.append_nil, List.append_assoc] at this
    exact this
end
end Go.Proofs.YtameidoaenoppaaGreatDoor
