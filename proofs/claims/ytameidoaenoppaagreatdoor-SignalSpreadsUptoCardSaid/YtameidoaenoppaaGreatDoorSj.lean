/- What a round of Spread's range keeps, of package signal: the state, and what stands beside it. -/
import Derived.Test.YtameidoaenoppaaGreatDoorSi
import Derived.Test.YtameidoaenoppaaGreatDoorSm
namespace Go.Proofs.YtameidoaenoppaaGreatDoor
open Go.RowKit Go.Shelf

def cloV (bA bD : Nat) : Value := .func (.func 24) #[] #[.pointer (some ⟨bA, 0, none⟩), .pointer (some ⟨bD, 0, none⟩)]
section
variable {w0 w w' : World} {p bm lm rm am tm bA bT bD bS : Nat} {live traps : List Int} {s : SS} {ns : List NB} {last : Int} {dv sv : Value} {vs us : List Dv} {ea et : List (Int × Value)}
/-- A turn of blocks that are no cells and no map of the state. -/
theorem SI.turnF (h : SI w0 w p bm lm rm am tm bA bT bD bS live traps s ns last dv sv vs us ea et) {F : Nat → Prop} (hc : Chg F w w') (hF : ∀ g, F g → w0.heap.size ≤ g ∧ g ≠ am ∧ g ≠ tm ∧ ∃ o : Obj, w.heap[g]? = some o ∧ o.isCells = false) :
    SI w0 w' p bm lm rm am tm bA bT bD bS live traps s ns last dv sv vs us ea et := by
  have off : ∀ T : TypeId, Off w F T := fun T g cur hf hg => by
    obtain ⟨_, _, _, o, ho, hi⟩ := hF g hf
    rw [hg] at ho; cases ho; cases hi
  exact ⟨⟨h.g.g.frame hc (fun g hg hf => by have a1 := h.old g hg; have a2 := (hF g hf).1; omega), h.g.ok⟩, hc.at h.xA (off_lt (off _) h.xA), hc.at h.xT (off_lt (off _) h.xT), hc.at h.xD (off_lt (off _) h.xD), hc.at h.xS (off_lt (off _) h.xS), h.mA.frame hc (fun hf => (hF _ hf).2.1 rfl), h.mT.frame hc (fun hf => (hF _ hf).2.2.1 rfl), h.lA, h.lT,
    h.d.off hc (off _) (off _), h.t.off hc (off _) (off _), h.ap, h.new, h.old, h.ne, h.chg.trans hc (fun g hg hf => by have := (hF g hf).1; omega)⟩
end
/-- What stands beside the state while a range runs. -/
structure Rest (V4 W : World) (bA bD bF db : Nat) (xp : Int) (xA : Option Addr) (dr : List Ce) (xc : Nat) (Ab : Option Addr) (m cb : Nat) (L : List Bd) : Prop where
  clo : Boxed W bF 64 (cloV bA bD)
  box : W.heap[db]? = some (.cells #[.int .i64 xp, .slice xA dr.length xc] 48 (0, 0))
  txt : Own W 63 eCe (.slice xA dr.length xc) dr
  bon : Own W 71 eBd (.slice Ab m cb) L
  mks : ∀ r : Nat, V4.heap[r]? = some (.deferred (some [])) → W.heap[r]? = some (.deferred (some []))
/-- Blocks that a step may turn. -/
def Fine (B : Nat) (W : World) (F : Nat → Prop) (db : Nat) : Prop := ∀ g, F g → (∃ a c, W.heap[g]? = some (.map a c) ∧ g < B) ∨
  (∃ cur T, W.heap[g]? = some (.cells cur T (0, 0)) ∧ (T = 24 ∨ T = 48 ∨ T = 33 ∨ T = 51) ∧ g ≠ db)
section
variable {V4 W W' : World} {bA bD bF db : Nat} {xp : Int} {xA : Option Addr} {dr : List Ce} {xc : Nat} {Ab : Option Addr} {m cb : Nat} {L : List Bd}
theorem Rest.below (h : Rest V4 W bA bD bF db xp xA dr xc Ab m cb L) (hb : Below W.heap.size W W') : Rest V4 W' bA bD bF db xp xA dr xc Ab m cb L :=
  ⟨(Chg.of_below hb NoF).at h.clo (fun h => h), (Chg.of_below hb NoF).at h.box (fun h => h), h.txt.below hb, h.bon.below hb, fun r hr => (Chg.of_below hb NoF).at (h.mks r hr) (fun h => h)⟩
theorem Rest.turn (h : Rest V4 W bA bD bF db xp xA dr xc Ab m cb L) {F : Nat → Prop} (hc : Chg F W W') (hF : ∀ g, F g → V4.heap.size ≤ g ∧ ∃ o : Obj, W.heap[g]? = some o ∧ o.isCells = false) : Rest V4 W' bA bD bF db xp xA dr xc Ab m cb L := by
  have off : ∀ T : TypeId, Off W F T := fun T g cur hf hg => by
    obtain ⟨_, o, ho, hi⟩ := hF g hf
    rw [hg] at ho; cases ho; cases hi
  exact ⟨hc.at h.clo (off_lt (off _) h.clo), hc.at h.box (off_lt (off _) h.box), h.txt.frame hc (h.txt.off (off _)), h.bon.frame hc (h.bon.off (off _)), fun r hr => hc.at (h.mks r hr) (fun hf => by have a1 := (hF r hf).1; have a2 := lt_of_block hr; omega)⟩
theorem Rest.step (h : Rest V4 W bA bD bF db xp xA dr xc Ab m cb L) {F : Nat → Prop} (hc : Chg F W W') (hf : Fine V4.heap.size W F db) :
    Rest V4 W' bA bD bF db xp xA dr xc Ab m cb L ∧ KeepsFrom V4.heap.size W W' ∧ KpI (fun k => (Value.slice Ab m cb).ownBlock ≠ some k) W W' := by
  have off : ∀ T : TypeId, T ≠ 24 → T ≠ 48 → T ≠ 33 → T ≠ 51 → Off W F T := fun T t1 t2 t3 t4 g cur hF hg => by
    rcases hf g hF with ⟨a, c, hm, _⟩ | ⟨cur', T', hm, ht, _⟩
    · rw [hg] at hm; cases hm
    · rw [hg] at hm; cases hm
      rcases ht with ht | ht | ht | ht
      · exact t1 ht
      · exact t2 ht
      · exact t3 ht
      · exact t4 ht
  refine ⟨⟨hc.at h.clo (off_lt (off _ (by decide) (by decide) (by decide) (by decide)) h.clo), hc.at h.box (fun hF => ?_), h.txt.frame hc (h.txt.off (off _ (by decide) (by decide) (by decide) (by decide))), h.bon.frame hc (h.bon.off (off _ (by decide) (by decide) (by decide) (by decide))), fun r hr => hc.at (h.mks r hr) (fun hF => ?_)⟩, ⟨hc.size, fun k o hB hk ho => ?_⟩, KpI.of_chg hc (fun k hk => ?_)⟩
  · rcases hf db hF with ⟨a, c, hm, _⟩ | ⟨cur', T', hm, ht, hn⟩
    · rw [h.box] at hm; cases hm
    · exact hn rfl
  · have hr' := h.mks r hr
    rcases hf r hF with ⟨a, c, hm, _⟩ | ⟨cur', T', hm, _⟩
    · rw [hr'] at hm; cases hm
    · rw [hr'] at hm; cases hm
  · refine hc.at hk (fun hF => ?_)
    rcases hf k hF with ⟨a, c, hm, hlt⟩ | ⟨cur', T', hm, _⟩
    · omega
    · rw [hk] at hm; cases hm; cases ho
  · rcases hf k hk with ⟨a, c, hm, hlt⟩ | ⟨cur', T', hm, ht, _⟩
    · exact .inr ⟨_, hm, rfl⟩
    · refine .inl (h.bon.ne hm (fun e => ?_))
      subst e
      rcases ht with ht | ht | ht | ht <;> exact absurd ht (by decide)
end
theorem fine_dies {B : Nat} {W : World} {am bD db : Nat} {ea : List (Int × Value)} {dv : Value} {vs : List Dv} (hm : IsMapV K2 W am ea) (hB : am < B) (hD : Boxed W bD 24 dv) (ho : Own W 48 eDv dv vs) {c : Array Value} (hdb : W.heap[db]? = some (.cells c 48 (0, 0))) (hn : dv.ownBlock ≠ some db) : Fine B W (FDi am bD dv) db := fun g hg => by
  rcases hg with rfl | rfl | hg
  · obtain ⟨a, c, h⟩ := hm.blk
    exact .inl ⟨a, c, h, hB⟩
  · refine .inr ⟨_, _, hD, .inl rfl, fun e => ?_⟩
    subst e
    unfold Boxed at hD
    rw [hD] at hdb; cases hdb
  · obtain ⟨cur, hcur⟩ := ho.blk' hg
    exact .inr ⟨_, _, hcur, .inr (.inl rfl), fun e => hn (e ▸ hg)⟩
theorem fine_tell {B : Nat} {W : World} {bS db : Nat} {sv : Value} {us : List Dv} (hS : Boxed W bS 33 sv) (ho : Own W 51 eDv sv us) {c : Array Value} (hdb : W.heap[db]? = some (.cells c 48 (0, 0))) : Fine B W (fun g => g = bS ∨ sv.ownBlock = some g) db := fun g hg => by
  rcases hg with rfl | hg
  · refine .inr ⟨_, _, hS, .inr (.inr (.inl rfl)), fun e => ?_⟩
    subst e
    unfold Boxed at hS
    rw [hS] at hdb; cases hdb
  · obtain ⟨cur, hcur⟩ := ho.blk' hg
    refine .inr ⟨_, _, hcur, .inr (.inr (.inr rfl)), fun e => ?_⟩
    subst e
    rw [hcur] at hdb; cases hdb
end Go.Proofs.YtameidoaenoppaaGreatDoor
