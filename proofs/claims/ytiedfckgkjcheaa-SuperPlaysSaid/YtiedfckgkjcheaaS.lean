/- What the closure of super.Exit answers; its conditions stand in each statement. -/
import Derived.Test.YtiedfckgkjcheaaR
namespace Go.Proofs.Ytiedfckgkjcheaa
open Go.RowKit

/-- What the closure of Exit has captured. -/
structure ExS (b14 b4 b10 b15 p fw : Nat) (k : Int) (av : Value) (w : World) (ag : List Bool) : Prop where
  c14 : w.heap[b14]? = some (.cells #[.func (.func fw) #[] #[]] 69 (0, 0))
  c4 : w.heap[b4]? = some (.cells #[.pointer (some ⟨p, 0, none⟩)] 22 (0, 0))
  c10 : w.heap[b10]? = some (.cells #[.int .i64 k] 3 (0, 0))
  c15 : w.heap[b15]? = some (.cells #[av] 52 (0, 0))
  a : Own w 4 eBool av ag
theorem ExS.frame {b14 b4 b10 b15 p fw : Nat} {k : Int} {av : Value} {w w' : World} {ag : List Bool} (h : ExS b14 b4 b10 b15 p fw k av w ag) {F : Nat → Prop} (hc : Chg F w w') (hF : ∀ k, F k → k < w.heap.size → ∃ cur T, w.heap[k]? = some (.cells cur T (0, 0)) ∧ (T = 43 ∨ T = 65 ∨ T = 62 ∨ T = 2)) :
    ExS b14 b4 b10 b15 p fw k av w' ag := by
  have key : ∀ (b : Nat) (c : Array Value) (T : TypeId), w.heap[b]? = some (.cells c T (0, 0)) → T ≠ 43 → T ≠ 65 → T ≠ 62 → T ≠ 2 → ¬ F b := by
    intro b c T hb h1 h2 h3 h4 hf
    obtain ⟨cur, T', h5, h6⟩ := hF b hf (lt_of_block hb)
    rw [hb] at h5
    cases h5
    rcases h6 with h6 | h6 | h6 | h6 <;> contradiction
  refine ⟨hc.at h.c14 (key _ _ _ h.c14 (by decide) (by decide) (by decide) (by decide)), hc.at h.c4 (key _ _ _ h.c4 (by decide) (by decide) (by decide) (by decide)), hc.at h.c10 (key _ _ _ h.c10 (by decide) (by decide) (by decide) (by decide)),
    hc.at h.c15 (key _ _ _ h.c15 (by decide) (by decide) (by decide) (by decide)), h.a.frame hc fun g hg => ?_⟩
  obtain ⟨cur, hcur⟩ := h.a.blk' hg
  exact key _ _ _ hcur (by decide) (by decide) (by decide) (by decide)

def withF (st : Int) (k : Int) (i : Nat) : Bool := if st = 2 then (i : Int) != k else if st = 3 then decide (k < (i : Int)) else false
def againF (c : Ch) : Bool := c.rs != 3
def goneF (c : Ch) : Ch := { c with gone := !againF c }
def AG (av : Value) : Nat → Prop := fun k => av.ownBlock = some k

theorem IsSup.drew {w : World} {p : Nat} {lv ev : Value} {s : SupM} (h : IsSup w p lv ev s) : IsSup w.drew p lv ev s := ⟨h.blk, h.l.drew, h.e.drew⟩
theorem ExS.drew {b14 b4 b10 b15 p fw : Nat} {k : Int} {av : Value} {w : World} {ag : List Bool} (h : ExS b14 b4 b10 b15 p fw k av w ag) : ExS b14 b4 b10 b15 p fw k av w.drew ag := ⟨h.c14, h.c4, h.c10, h.c15, h.a.drew⟩

theorem exit1_fin {w : World} {b14 b4 b10 b15 p g ga n n2 c c2 fw : Nat} {ev : Value} {k : Int} {s : SupM} {i : Nat} {l : List Ch} {ag : List Bool} {x : Ch}
    (hx : l[i]? = some x) (hn : n = l.length) (hn2 : n2 = ag.length) (hi : i < ag.length) (hs : IsSup w p (.slice (some ⟨g, 0, none⟩) n c) ev { s with l := l }) (he : ExS b14 b4 b10 b15 p fw k (.slice (some ⟨ga, 0, none⟩) n2 c2) w ag) :
    IsSup ((w.setCell ⟨ga, i, none⟩ (.bool (againF x))).setCell ⟨g, i * 4 + 3, none⟩ (.bool !againF x)).drew.drew p (.slice (some ⟨g, 0, none⟩) n c) ev { s with l := l.set i (goneF x) } ∧
    ExS b14 b4 b10 b15 p fw k (.slice (some ⟨ga, 0, none⟩) n2 c2) ((w.setCell ⟨ga, i, none⟩ (.bool (againF x))).setCell ⟨g, i * 4 + 3, none⟩ (.bool !againF x)).drew.drew (ag.set i (againF x)) ∧
    Chg (fun k => FL p (.slice (some ⟨g, 0, none⟩) n c) k ∨ AG (.slice (some ⟨ga, 0, none⟩) n2 c2) k) w ((w.setCell ⟨ga, i, none⟩ (.bool (againF x))).setCell ⟨g, i * 4 + 3, none⟩ (.bool !againF x)).drew.drew := by
  have hlt : i < l.length := (List.getElem?_eq_some_iff.1 hx).1
  have hxe : l[i] = x := (List.getElem?_eq_some_iff.1 hx).2
  obtain ⟨ca, hca⟩ := he.a.blk
  obtain ⟨cg, hcg⟩ := hs.l.blk
  have ne : ∀ (b : Nat) (cc : Array Value) (T : TypeId), w.heap[b]? = some (.cells cc T (0, 0)) → T ≠ 4 → b ≠ ga := fun b cc T h hT e => by rw [e, hca] at h; cases h; exact hT rfl
  have ne2 : ∀ (b : Nat) (cc : Array Value) (T : TypeId), w.heap[b]? = some (.cells cc T (0, 0)) → T ≠ 65 → b ≠ g := fun b cc T h hT e => by rw [e, hcg] at h; cases h; exact hT rfl
  have hs1 : IsSup (w.setCell ⟨ga, i, none⟩ (.bool (againF x))) p (.slice (some ⟨g, 0, none⟩) n c) ev { s with l := l } :=
    hs.frame (chg_cell w ga i _) (ne _ _ _ hs.blk (by decide)) (fun g' hg' e => by cases hg'; exact ne _ _ _ hcg (by decide) e) (fun g' hg' e => by
      obtain ⟨ce, hce⟩ := hs.e.blk' hg'
      exact ne _ _ _ hce (by decide) e)
  have he1 : ExS b14 b4 b10 b15 p fw k (.slice (some ⟨ga, 0, none⟩) n2 c2) (w.setCell ⟨ga, i, none⟩ (.bool (againF x))) (ag.set i (againF x)) :=
    ⟨blk_set_ne he.c14 (ne _ _ _ he.c14 (by decide)) _, blk_set_ne he.c4 (ne _ _ _ he.c4 (by decide)) _, blk_set_ne he.c10 (ne _ _ _ he.c10 (by decide)) _, blk_set_ne he.c15 (ne _ _ _ he.c15 (by decide)) _,
      by have := he.a.set hn2 i 0 (againF x) (.bool (againF x)) hi (by decide) rfl; simpa [eBool] using this⟩
  have hs2 := hs1.setGone hn i hlt x hxe.symm (!againF x)
  have he2 := he1.frame (chg_cell (w.setCell ⟨ga, i, none⟩ (.bool (againF x))) g (i * 4 + 3) (.bool !againF x)) (fun k' hk' _ => by
    subst hk'
    obtain ⟨cg1, hcg1⟩ := hs1.l.blk
    exact ⟨cg1, 65, hcg1, .inr (.inl rfl)⟩)
  exact ⟨hs2.drew.drew, he2.drew.drew, ((((Chg.refl _ w).set (p := ⟨ga, i, none⟩) (.inl (.inr rfl)) _).set (p := ⟨g, i * 4 + 3, none⟩) (.inl (.inl (.inr rfl))) _).drew).drew⟩

set_option maxHeartbeats 2000000 in
theorem exit1_any (w : World) (b14 b4 b10 b15 p : Nat) (lv ev av : Value) (st : Nat) (k : Int) (s : SupM) (i : Nat) (l : List Ch) (ag : List Bool) (x : Ch) (hst : st = 1 ∨ st = 2 ∨ st = 3)
    (hx : l[i]? = some x) (hl : l.length = s.l.length) (hs : IsSup w p lv ev { s with l := l }) (he : ExS b14 b4 b10 b15 p (38 + st) k av w ag) (hag : ag.length = s.l.length) :
    Calls Try.prog 31 #[.int .i64 i, .pointer (some ⟨b14, 0, none⟩), .pointer (some ⟨b4, 0, none⟩), .pointer (some ⟨b10, 0, none⟩), .pointer (some ⟨b15, 0, none⟩)] w
      (MeantPost p lv ev s (AG av) (ExS b14 b4 b10 b15 p (38 + st) k av) (withF st k) goneF againF i l ag x w) := by
  have hlt : i < l.length := (List.getElem?_eq_some_iff.1 hx).1
  have hxe : l[i] = x := (List.getElem?_eq_some_iff.1 hx).2
  obtain ⟨A, c, hlv, _, _, hA0, hA1⟩ := hs.l.shape
  simp only at hlv hA0
  subst hlv
  cases A with
  | none => have := (hA0 rfl).1; rw [this] at hlt; simp at hlt
  | some a =>
  obtain ⟨g, rfl⟩ := hA1 a rfl
  obtain ⟨A2, c2, hav, _, _, hB0, hB1⟩ := he.a.shape
  subst hav
  cases A2 with
  | none => have := (hB0 rfl).1; rw [this] at hag; simp at hag; omega
  | some a2 =>
  obtain ⟨ga, rfl⟩ := hB1 a2 rfl
  clear hA0 hA1 hB0 hB1
  have ilt : i < ag.length := by omega
  have m14 : w.cell? ⟨b14, 0, none⟩ = some (.func (.func (38 + st)) #[] #[]) := blk_c he.c14 0
  have m4 : w.cell? ⟨b4, 0, none⟩ = some (.pointer (some ⟨p, 0, none⟩)) := blk_c he.c4 0
  have m10 : w.cell? ⟨b10, 0, none⟩ = some (.int .i64 k) := blk_c he.c10 0
  have m15 : w.cell? ⟨b15, 0, none⟩ = some (.slice (some ⟨ga, 0, none⟩) ag.length c2) := blk_c he.c15 0
  have mp : w.cell? ⟨p, 3, none⟩ = some (.slice (some ⟨g, 0, none⟩) l.length c) := hs.c 3
  have ml1 : w.cell? ⟨g, i * 4 + 1, none⟩ = some (.int .i64 x.rs) := by rw [← hxe]; exact hs.l.elem i 1 hlt (by decide)
  have ml3 : w.cell? ⟨g, i * 4 + 3, none⟩ = some (.bool x.gone) := by rw [← hxe]; exact hs.l.elem i 3 hlt (by decide)
  have fl3 : w.frozen? ⟨g, i * 4 + 3, none⟩ = false := hs.l.frozen _
  have ma : w.cell? ⟨ga, i, none⟩ = some (.bool ag[i]) := by have := he.a.elem i 0 ilt (by decide); simpa [eBool] using this
  have fa : w.frozen? ⟨ga, i, none⟩ = false := he.a.frozen _
  obtain ⟨cg, hcg⟩ := hs.l.blk
  obtain ⟨ca, hca⟩ := he.a.blk
  have hgga : ga ≠ g := fun e => by rw [e, hcg] at hca; cases hca
  have hga15 : ga ≠ b15 := fun e => by rw [e, he.c15] at hca; cases hca
  have hga4 : ga ≠ b4 := fun e => by rw [e, he.c4] at hca; cases hca
  have hgap : ga ≠ p := fun e => by have := hs.blk; rw [← e, hca] at this; cases this
  have KX := Kp.mk hx
  have KXE := Kp.mk hxe
  have KL := Kp.mk hl
  have KAG := Kp.mk hag
  clear hx hxe hl hag hcg hca
  rcases hst with rfl | rfl | rfl
  · have e1 : withF ((1 : Nat) : Int) k i = false := by simp [withF]
    go_enter Try.func31, Try.ntmps31
    go_wp2_with (go_at_call 39; refine (oneForOne_any _ _ _ _).mono ?_; rintro e w' ⟨rfl, rfl⟩)
    go_ret
    exact ⟨by rw [e1]; rfl, by rw [e1]; exact hs, by rw [e1]; exact he, Chg.refl _ _⟩
  · have e1 : withF ((2 : Nat) : Int) k i = ((i : Int) != k) := by simp [withF]
    unfold MeantPost
    rw [e1]
    cases hne : ((i : Int) != k)
    · go_enter Try.func31, Try.ntmps31
      go_wp2_with (go_at_call 40; refine (oneForAll_any _ _ _ _).mono ?_; rintro e w' ⟨rfl, rfl⟩)
      go_ret
      exact ⟨rfl, hs, he, Chg.refl _ _⟩
    · go_enter Try.func31, Try.ntmps31
      go_wp2_with (go_at_call 40; refine (oneForAll_any _ _ _ _).mono ?_; rintro e w' ⟨rfl, rfl⟩)
      go_region
      all_goals go_wp2
      all_goals go_region
      all_goals go_wp2
      all_goals go_ret
      have hfin := exit1_fin (s := s) KX.out rfl rfl ilt hs he
      exact ⟨rfl, hfin⟩
  · have e1 : withF ((3 : Nat) : Int) k i = decide (k < (i : Int)) := by simp [withF]
    unfold MeantPost
    rw [e1]
    cases hne : decide (k < (i : Int))
    · go_enter Try.func31, Try.ntmps31
      go_wp2_with (go_at_call 41; refine (restForOne_any _ _ _ _).mono ?_; rintro e w' ⟨rfl, rfl⟩)
      go_ret
      exact ⟨rfl, hs, he, Chg.refl _ _⟩
    · go_enter Try.func31, Try.ntmps31
      go_wp2_with (go_at_call 41; refine (restForOne_any _ _ _ _).mono ?_; rintro e w' ⟨rfl, rfl⟩)
      go_region
      all_goals go_wp2
      all_goals go_region
      all_goals go_wp2
      all_goals go_ret
      have hfin := exit1_fin (s := s) KX.out rfl rfl ilt hs he
      exact ⟨rfl, hfin⟩

end Go.Proofs.Ytiedfckgkjcheaa
