/- Plain: the program's and the document's steps of package links agree; both graphs made since a world; no condition. -/
import Derived.Test.YtameidoaenoppaaGreatDoorLRl
import Derived.Test.YtameidoaenoppaaGreatDoorLT
import Derived.Test.YtameidoaenoppaaGreatDoorLEn
namespace Go.Proofs.YtameidoaenoppaaGreatDoor
open Go.RowKit

def GoodL (L : List Bd) : Prop := ∀ x ∈ L, Good x
def leftL (pid : Int) (L : List Bd) : List Bd := L.filter (fun x => !isOf pid x)
abbrev sn (ns : List NB) : List Bd := ns.map (·.2)
section
variable {ns : List NB} {last : Int}
theorem GOk.goodL (h : GOk ns last) : GoodL (sn ns) := fun x hx => by
  obtain ⟨q, hq, rfl⟩ := List.mem_map.1 hx
  exact h.good q hq
theorem GOk.nodupL (h : GOk ns last) : (sn ns).Nodup := by
  refine List.pairwise_map.2 ((h.pairs.and h.refs).imp (fun {p q} hpq e => ?_))
  obtain ⟨h1, h2⟩ := hpq
  by_cases h0 : p.2.r = 0
  · exact h1 h0 (by rw [← e]; exact h0) (by rw [e])
  · exact h2 h0 (by rw [e])
theorem mem_sn {x : Bd} : x ∈ sn ns ↔ ∃ n, (n, x) ∈ ns := by
  unfold sn
  rw [List.mem_map]
  constructor
  · rintro ⟨⟨n, y⟩, h, rfl⟩; exact ⟨n, h⟩
  · rintro ⟨n, h⟩; exact ⟨_, h, rfl⟩
theorem look_isSome_links (h : GOk ns last) (a b : Int) : (look (linksE ns) (min a b, max a b)).isSome = true ↔ pairB a b ∈ sn ns := by
  rw [Option.isSome_iff_exists, mem_sn]
  constructor
  · rintro ⟨v, hv⟩; obtain ⟨n, hn, _⟩ := (look_links h).1 hv; exact ⟨n, hn⟩
  · rintro ⟨n, hn⟩; exact ⟨_, (look_links h).2 ⟨n, hn, rfl⟩⟩
theorem look_isSome_refs (h : GOk ns last) (r : Int) : (look (refsE ns) r).isSome = true ↔ r ≠ 0 ∧ hasR (sn ns) r := by
  rw [Option.isSome_iff_exists]
  constructor
  · rintro ⟨v, hv⟩; obtain ⟨h0, n, a, b, hn, _⟩ := (look_refs h).1 hv; exact ⟨h0, ⟨a, b, r⟩, mem_sn.2 ⟨n, hn⟩, rfl⟩
  · rintro ⟨h0, x, hx, rfl⟩; obtain ⟨n, hn⟩ := mem_sn.1 hx; exact ⟨_, (look_refs h).2 ⟨h0, n, x.a, x.b, hn, rfl⟩⟩
theorem linkE_eq (h : GOk ns last) (a b : Int) : dLinkE (sn ns) a b = linkE ns a b := by
  unfold dLinkE linkE
  by_cases h1 : pairB a b ∈ sn ns
  · have h2 := (look_isSome_links h a b).2 h1
    simp only [h1, h2, List.length_map]
  · have h2 : ¬ (look (linksE ns) (min a b, max a b)).isSome = true := fun h3 => h1 ((look_isSome_links h a b).1 h3)
    simp only [h1, if_neg h2, List.length_map]
    rfl
theorem linkL_eq (h : GOk ns last) (a b : Int) : dLinkL (sn ns) a b = if linkE ns a b = 0 then sn (linkN ns last a b) else sn ns := by
  unfold dLinkL
  rw [linkE_eq h]
  split
  · simp [sn, linkN, pairB]
  · rfl
theorem watchE_eq (h : GOk ns last) (r a b : Int) : dWatchE (sn ns) r a b = watchE ns r a b := by
  unfold dWatchE watchE
  by_cases hw : watchA r a b = true
  · have : ¬ watchOk r a b := by
      intro ⟨h1, h2, h3, h4⟩
      unfold watchA at hw
      simp only [Bool.or_eq_true, decide_eq_true_eq, Bool.not_eq_true', decide_eq_false_iff_not] at hw
      rcases hw with ((hw | hw) | hw) | hw
      · omega
      · omega
      · exact hw h3
      · exact hw h4
    rw [if_pos this, if_pos hw]
  · have h0 := watchA_0 (Bool.eq_false_iff.2 hw)
    rw [if_neg (fun h => h h0), if_neg hw]
    by_cases h1 : hasR (sn ns) r
    · rw [if_pos h1, if_pos ((look_isSome_refs h r).2 ⟨by have := h0.1; omega, h1⟩)]
    · rw [if_neg h1, if_neg (fun h2 => h1 ((look_isSome_refs h r).1 h2).2), List.length_map]
theorem watchL_eq (h : GOk ns last) (r a b : Int) : dWatchL (sn ns) r a b = if watchE ns r a b = 0 then sn (watchN ns last r a b) else sn ns := by
  unfold dWatchL
  rw [watchE_eq h]
  split
  · simp [sn, watchN]
  · rfl
theorem GOk.rpos (h : GOk ns last) {r : Int} (h0 : r ≠ 0) (hr : hasR (sn ns) r) : 0 < r := by
  obtain ⟨x, hx, rfl⟩ := hr
  have := (h.goodL x hx).2.2
  omega
theorem leftL_eq (ns : List NB) (pid : Int) : leftL pid (sn ns) = sn (leftN pid ns) := by
  unfold leftL leftN sn
  rw [List.filter_map]
  rfl
end
/-- Both graphs, made since w0. -/
structure Two (w0 w : World) (p bm lm rm q : Nat) (lv : Value) (ns : List NB) (last : Int) : Prop where
  g : IsG w p bm lm rm ns last
  d : IsD w q lv (sn ns)
  fg : ∀ k, FG p bm lm rm k → w0.heap.size ≤ k
  fd : ∀ k, FD q lv k → w0.heap.size ≤ k
  bel : Below w0.heap.size w0 w
theorem apart {w : World} {p bm lm rm q : Nat} {lv : Value} {ns : List NB} {last : Int} {L : List Bd} (hg : IsG w p bm lm rm ns last) (hd : IsD w q lv L) (k : Nat) (h1 : FG p bm lm rm k) (h2 : FD q lv k) : False := by
  have hm : ∀ {b : Nat} {es : List (Int × Value)}, IsMapV K2 w b es → ∀ c t, w.heap[b]? ≠ some (.cells c t (0, 0)) := fun hm c t h => by
    obtain ⟨a, c', hb⟩ := hm.blk
    rw [h] at hb; cases hb
  have hm7 : ∀ {b : Nat} {es : List ((Int × Int) × Value)}, IsMapV K77 w b es → ∀ c t, w.heap[b]? ≠ some (.cells c t (0, 0)) := fun hm c t h => by
    obtain ⟨a, c', hb⟩ := hm.blk
    rw [h] at hb; cases hb
  have hc : ∃ c t, w.heap[k]? = some (.cells c t (0, 0)) ∧ (t = 44 ∨ t = 71) := by
    rcases h2 with rfl | h2
    · exact ⟨_, _, hd.blk, .inl rfl⟩
    · obtain ⟨cur, hcur⟩ := hd.own.blk' h2
      exact ⟨_, _, hcur, .inr rfl⟩
  obtain ⟨c, t, hct, ht⟩ := hc
  rcases h1 with rfl | rfl | rfl | rfl
  · rw [hg.g.blk] at hct
    cases hct
    rcases ht with h | h <;> cases h
  · exact hm hg.g.mb _ _ hct
  · exact hm7 hg.g.ml _ _ hct
  · exact hm hg.g.mr _ _ hct
section
variable {w0 w w' : World} {p bm lm rm q : Nat} {lv : Value} {ns ns' : List NB} {last last' : Int}
theorem Two.below (h : Two w0 w p bm lm rm q lv ns last) (hb : Below w.heap.size w w') : Two w0 w' p bm lm rm q lv ns last :=
  ⟨h.g.below hb, h.d.below hb, h.fg, h.fd, bstep h.bel h.bel.size hb⟩
/-- The document's graph where the program's has turned. -/
theorem Two.dturn (h : Two w0 w p bm lm rm q lv ns last) (hc : Chg (FG p bm lm rm) w w') : IsD w' q lv (sn ns) := h.d.frame hc (fun k h2 h1 => apart h.g h.d k h1 h2)
/-- Behind a step of both. -/
theorem Two.step' {w1 : World} {lv' : Value} (h : Two w0 w p bm lm rm q lv ns last) (hc : Chg (FG p bm lm rm) w w1) (hg : IsG w1 p bm lm rm ns' last') (h1 : IsD w' q lv' (sn ns')) (h2 : Chg (FD q lv) w1 w') (h3 : ∀ g, lv'.ownBlock = some g → lv.ownBlock = some g ∨ w1.heap.size ≤ g) : Two w0 w' p bm lm rm q lv' ns' last' := by
  have hb1 : Below w0.heap.size w0 w1 := chg_below h.bel hc h.fg h.bel.size
  have hD := h.dturn hc
  refine ⟨⟨hg.g.frame h2 (fun k k1 k2 => apart hg hD k k1 k2), hg.ok⟩, h1, h.fg, fun k hk => ?_, chg_below hb1 h2 h.fd hb1.size⟩
  rcases hk with rfl | hk
  · exact h.fd _ (.inl rfl)
  · rcases h3 k hk with h4 | h4
    · exact h.fd k (.inr h4)
    · have := hb1.size; omega
theorem Two.step {w1 : World} (h : Two w0 w p bm lm rm q lv ns last) (hc : Chg (FG p bm lm rm) w w1) (hg : IsG w1 p bm lm rm ns' last') {L' : List Bd} (hd : DStep w1 q lv L' w') (hL : L' = sn ns') : ∃ lv', Two w0 w' p bm lm rm q lv' ns' last' := by
  subst hL
  obtain ⟨lv', h1, h2, h3⟩ := hd
  exact ⟨lv', h.step' hc hg h1 h2 h3⟩
/-- What turns neither graph. -/
theorem Two.frame {F : Nat → Prop} (h : Two w0 w p bm lm rm q lv ns last) (hc : Chg F w w') (hg : ∀ k, FG p bm lm rm k → ¬ F k) (hd : ∀ k, FD q lv k → ¬ F k) (hF : ∀ k, F k → w0.heap.size ≤ k) : Two w0 w' p bm lm rm q lv ns last :=
  ⟨⟨h.g.g.frame hc hg, h.g.ok⟩, h.d.frame hc hd, h.fg, h.fd, chg_below h.bel hc hF h.bel.size⟩
end
end Go.Proofs.YtameidoaenoppaaGreatDoor
