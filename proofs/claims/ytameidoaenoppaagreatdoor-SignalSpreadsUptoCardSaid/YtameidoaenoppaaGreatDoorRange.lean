/- Laws for a range over a function whose body collects: the append as a step within a fence, what is kept from round to round; no condition. -/
import Derived.RangeFuncNested
import Derived.RangeFuncBound
import Derived.RangeFuncCalls
import Derived.RangeFuncLeaves
import Derived.RangeFuncBox
import Derived.Shelf.Abstract
import Derived.Shelf.RegionOpen
import Derived.OwnWalkIn
import Derived.TacticsInMore
import Derived.LoopNIn
import Derived.LoopIn
import Derived.Scope
import Derived.WalkMore
import Derived.Test.YtameidoaenoppaaGreatDoorLib
namespace Go.Proofs.YtameidoaenoppaaGreatDoor
open Go.RowKit Go.Shelf

section
variable {P : Program} {b : Frame} {a : Act} {k : List Item} {cs : List Frame} {w : World} {Q : Exit → Act → World → Prop} {F : Fence} {n : Nat}
theorem stepR_scope {c : Code} : step P (lone (b.atR a (.code (.scope c) :: k)) cs w) = .next (lone (b.atR a (.code c :: .inScope c :: k)) cs w) :=
  step_lone_go (by simp [stepG, stepG.exec, Frame.atR])
theorem stepR_inScope {c : Code} : step P (lone (b.atR a (.inScope c :: k)) cs w) = .next (lone (b.atR a k) cs w) :=
  step_lone_go (by simp [stepG, stepG.exec, Frame.atR])
/-- A scope through which the run goes without a goto, within a fence. -/
theorem wpIn_scope_straight {c : Code} (h : c.wpIn F n P (Exit.noGoto Q) a w) : (Code.scope c).wpIn F n P Q a w := by
  intro b k cs hro hb hr
  have h0 : (lone (b.atR a (.code (.scope c) :: k)) cs w).fenced P F := fenced_calm hb hr rfl
  obtain ⟨e, a₁, w₁, hq, harr⟩ := h b (.inScope c :: k) cs hro hb hr
  cases e with
  | normal => exact ⟨.normal, a₁, w₁, hq, .head h0 stepR_scope (StepsIn.trans harr (.one (fenced_calm hb hr rfl) stepR_inScope))⟩
  | exit id' =>
    have hx : exitTo id' (.inScope c :: k) = exitTo id' k := by simp [exitTo]
    exact ⟨.exit id', a₁, w₁, hq, fun k' hk => .head h0 stepR_scope (harr.1 k' (by rw [hx]; exact hk)),
      fun hr' hk => let ⟨k₁, h1, h2⟩ := harr.2 hr' (by rw [hx]; exact hk); ⟨k₁, h1, .head h0 stepR_scope h2⟩⟩
  | goto l => exact hq.elim
  | ret => exact ⟨_, a₁, w₁, hq, .of_steps (.one h0 stepR_scope) harr⟩
  | panic ch => exact ⟨_, a₁, w₁, hq, .of_steps (.one h0 stepR_scope) harr⟩
  | outgrown => exact ⟨_, a₁, w₁, hq, .of_steps (.one h0 stepR_scope) harr⟩
end

theorem chg_grown {W W' : World} {row : Option Nat} (h : W.grownBy W' row) : Chg (fun g => row = some g) W W' := ⟨h.os, h.tape, h.output, h.size, fun k hk hn => h.block k hk (fun e => hn e.symm)⟩
section
variable {α β : Type} {P : Program} {w w0 W W' : World} {t ty e T : TypeId} {E : El α} {by_ : Nat} {v : Value} {l xs : List α} {F : Fence} {n : Nat}
/-- A row is kept where only what is no cells turns. -/
theorem Own.turn (h : Own W T E v l) {row : Option Nat} (hg : W.grownBy W' row) (hr : ∀ r, row = some r → ∃ o : Obj, W.heap[r]? = some o ∧ o.isCells = false) : Own W' T E v l :=
  h.frame (chg_grown hg) (fun g hgv hF => by
    obtain ⟨o, ho, hc⟩ := hr g hF
    obtain ⟨cur, hcur⟩ := h.blk' hgv
    rw [hcur] at ho; cases ho; cases hc)
/-- What a loop that collects keeps: the box holds a row of what has come. -/
def Coll (w0 : World) (T : TypeId) (E : El α) (t : TypeId) (B : Nat) (f : β → List α) (s : β) (W : World) : Prop := (∃ v, Boxed W B t v ∧ Own W T E v (f s) ∧ Fresh w0 v) ∧ Below w0.heap.size w0 W
theorem coll_own {B B0 : Nat} {f : β → List α} (hB : w0.heap.size ≤ B0) : OwnFrom B0 (Coll w0 T E t B f) := by
  rintro s X Y row ⟨⟨v, hb, ho, hf⟩, hbel⟩ hg hr
  refine ⟨⟨v, hb.kept hg (fun e' => ?_), ho.turn hg (fun r e => (hr r e).2), hf⟩, ownFrom_below (Nat.le_refl _) hB () X Y row hbel hg hr⟩
  obtain ⟨_, o, hoo, hc⟩ := hr B e'.symm
  rw [show X.heap[B]? = _ from hb] at hoo; cases hoo; cases hc
theorem boxed_from {B B0 : Nat} {v : Value} : OwnFrom B0 (fun (_ : β) W => Boxed W B t v) := Own.from (boxed_own B t (fun _ => v)) B0
/-- A turn of what is no cells, at the function's return. -/
theorem Own.putObj (h : Own W T E v l) {b : Nat} {o : Obj} (o' : Obj) (hl : W.heap[b]? = some o) (ho : o.isCells = false) : Own (W.putObj b o') T E v l := h.turn (grownBy_putObj' W b o') (fun r e => by cases e; exact ⟨o, hl, ho⟩)
theorem keeps_chg {G : Nat → Prop} (h : Chg G W W') (hG : ∀ k o, G k → W.heap[k]? = some o → o.isCells = true) : KeepsOthers W W' := ⟨h.size, fun k o hk ho => by
  have hn : ¬ G k := fun hg => by have := hG k o hg hk; rw [ho] at this; cases this
  rw [h.block k (lt_of_block hk) hn]; exact hk⟩

variable {ops : Array Oper} {rest : List Oper} {o : Oper} {a : Act} {Q : Exit → Act → World → Prop}
/-- append as one step of the walk within a fence. -/
theorem app_evIn (hT : SlT P t e E by_) (hgd : o.guard = none) (s x : Operand) (ho : o.op = .call { callee := .builtin .append, args := #[s, x], argTypes := #[t, t] })
    {A : Option Addr} {m c : Nat} (hown : Own w e E v l) (hs : a.eval s = v) (hsrc : Src w E A c xs) (hm : m = xs.length) (hx : a.eval x = .slice A m c)
    (hb : (l.length + xs.length) * by_ ≤ 140737488355328) (hmax : l.length + xs.length ≤ 9000000000000000000)
    (h : ∀ A' n' c' w', Kp (n' = l.length + xs.length) → Own w' e E (.slice A' n' c') (l ++ xs) → Chg (fun g => v.ownBlock = some g) w w' → ((Value.slice A' n' c').ownBlock = v.ownBlock ∨ ∃ g, (Value.slice A' n' c').ownBlock = some g ∧ w.heap.size ≤ g) → wpListIn F n P ops Q rest (a.put o.dst (.slice A' n' c')) w') :
    wpListIn F n P ops Q (o :: rest) a w := by
  obtain ⟨v', w', hr, h2, h3, h4⟩ := run_app (P := P) (ty := o.type) hT hown hm hsrc hb hmax
  obtain ⟨A', c', hv, _⟩ := h2.shape
  rw [List.length_append] at hv
  subst hv
  refine wpListIn_plain hgd fun K hK => ?_
  unfold Oper.wpIn
  refine ⟨?_, ?_⟩
  · simp [Oper.about, ho, resolve, Target.leads, Sem.run_pure]
  · rw [Oper.semAt_plain F _ _ (by rw [ho]; intro c hc'; cases hc')]
    simp [execOp, ho, resolve, invoke, builtin, hs, hx, hr, Result.andThen]
    exact hK _ _ (h A' _ c' w' ⟨rfl⟩ h2 h3 h4)
/-- append of one element that has just been laid, within a fence. -/
theorem app1_evIn (hT : SlT P t e E by_) (y : α) (hgd : o.guard = none) (s x : Operand) (ho : o.op = .call { callee := .builtin .append, args := #[s, x], argTypes := #[t, t] })
    {W0 : World} {cs : Array Value} (hown : Own W0 e E v l) (hW : w = W0.alloc (.cells cs e)) (hs : a.eval s = v) {bn : Nat} (hx : a.eval x = .slice (some ⟨bn, 0, none⟩) 1 1) (hbn : bn = W0.heap.size) (hcs : cs.toList = E.f y)
    (hb : (l.length + 1) * by_ ≤ 140737488355328) (hmax : l.length + 1 ≤ 9000000000000000000)
    (h : ∀ A' n' c' w', Kp (n' = l.length + 1) → Own w' e E (.slice A' n' c') (l ++ [y]) → Chg (fun g => v.ownBlock = some g) W0 w' → ((Value.slice A' n' c').ownBlock = v.ownBlock ∨ ∃ g, (Value.slice A' n' c').ownBlock = some g ∧ W0.heap.size ≤ g) → wpListIn F n P ops Q rest (a.put o.dst (.slice A' n' c')) w') :
    wpListIn F n P ops Q (o :: rest) a w := by
  subst hW
  subst hbn
  refine app_evIn hT hgd s x ho (xs := [y]) (hown.alloc _) hs ⟨?_, fun h => by cases h⟩ rfl hx hb hmax ?_
  · intro ad ha j u hu
    cases ha
    rw [Addr.add_lit, Nat.zero_add, blk_c (blk_new W0 _)]
    rw [E.flat_one, ← hcs] at hu
    simpa using hu
  · intro A' n' c' w' h0 h1 h2 h3
    refine h A' n' c' w' h0 h1 (((Chg.refl _ W0).alloc _).then h2) ?_
    rcases h3 with h3 | ⟨g, h3, h4⟩
    · exact .inl h3
    · exact .inr ⟨g, h3, by simp at h4; omega⟩

/-- Behind an append to the row that a box holds, once it is stored back. -/
theorem coll_app {w1 : World} {B : Nat} {tb : TypeId} {y : α} {v' : Value} (hv : Boxed W B tb v) (hte : tb ≠ e) (ho : Own W e E v l) (hf : Fresh w0 v) (hbel : Below w0.heap.size w0 W) (hB : w0.heap.size ≤ B)
    (h1 : Own w1 e E v' (l ++ [y])) (h2 : Chg (fun g => v.ownBlock = some g) W w1) (h3 : v'.ownBlock = v.ownBlock ∨ ∃ g, v'.ownBlock = some g ∧ W.heap.size ≤ g) :
    Boxed w1 B tb v ∧ Boxed (w1.setCell ⟨B, 0, none⟩ v') B tb v' ∧ Own (w1.setCell ⟨B, 0, none⟩ v') e E v' (l ++ [y]) ∧ Fresh w0 v' ∧ KeepsOthers W (w1.setCell ⟨B, 0, none⟩ v') ∧ Below w0.heap.size W (w1.setCell ⟨B, 0, none⟩ v') ∧ Chg (fun g => g = B ∨ v.ownBlock = some g) W (w1.setCell ⟨B, 0, none⟩ v') := by
  have hne : v.ownBlock ≠ some B := ho.ne hv (fun e => hte e.symm)
  have hv1 : Boxed w1 B tb v := h2.at hv hne
  have hc : Chg (fun g => g = B ∨ v.ownBlock = some g) W (w1.setCell ⟨B, 0, none⟩ v') := (h2.mono (fun _ _ h => .inr h)).set (p := ⟨B, 0, none⟩) (.inl (.inl rfl)) v'
  have hne1 : v'.ownBlock ≠ some B := h1.ne hv1 (fun e => hte e.symm)
  refine ⟨hv1, hv1.set v', h1.set_ne hne1 _, hf.app hbel.size h3, keeps_chg hc (fun k o hk ho' => ?_), ?_, hc⟩
  · rcases hk with rfl | hk
    · rw [show W.heap[k]? = _ from hv] at ho'; cases ho'; rfl
    · obtain ⟨cur, hcur⟩ := ho.blk' hk
      rw [hcur] at ho'; cases ho'; rfl
  · exact ⟨hc.os, hc.tape, hc.output, hc.size, fun k hk => hc.block k (Nat.lt_of_lt_of_le hk hbel.size) (fun hg => by
      rcases hg with rfl | hg
      · omega
      · have := hf k hg; omega)⟩
end

/-- The blocks that the row of the box B takes. -/
def OwnedAt (W : World) (B : Nat) (t : TypeId) (k : Nat) : Prop := ∃ v, Boxed W B t v ∧ v.ownBlock = some k
/-- What a round keeps whose body collects into the box B: all cells but that box and its row; and all that lay below n0. -/
structure KpB (n0 B : Nat) (t : TypeId) (W W' : World) : Prop where
  size : W.heap.size ≤ W'.heap.size
  cells : ∀ k o, W.heap[k]? = some o → o.isCells = true → k ≠ B → ¬ OwnedAt W B t k → W'.heap[k]? = some o
  owned : ∀ k, OwnedAt W' B t k → OwnedAt W B t k ∨ W.heap.size ≤ k
  below : Below n0 W W'
section
variable {n0 B : Nat} {t : TypeId}
theorem KpB.trans {X Y Z : World} (h : KpB n0 B t X Y) (k : KpB n0 B t Y Z) : KpB n0 B t X Z := by
  refine ⟨Nat.le_trans h.size k.size, fun i o hi hc hB hn => ?_, fun i hi => ?_, h.below.trans k.below⟩
  · refine k.cells i o (h.cells i o hi hc hB hn) hc hB fun ho => ?_
    rcases h.owned i ho with h1 | h1
    · exact hn h1
    · have := lt_of_block hi; omega
  · rcases k.owned i hi with h1 | h1
    · exact h.owned i h1
    · exact .inr (Nat.le_trans h.size h1)
theorem KpB.refl (W : World) : KpB n0 B t W W := ⟨Nat.le_refl _, fun _ _ h _ _ _ => h, fun _ h => .inl h, Below.refl _ _⟩
theorem owned_kept {W W' : World} (hk : W'.heap[B]? = W.heap[B]?) (k : Nat) : OwnedAt W' B t k → OwnedAt W B t k := fun ⟨v, hv, h⟩ => ⟨v, by unfold Boxed at hv ⊢; rw [← hk]; exact hv, h⟩
theorem KpB.turn {w : World} (hn : n0 ≤ w.heap.size) (hBl : B < w.heap.size) (W : World) (l : Nat) (o o' : Obj) (hl : w.heap.size ≤ l) (h : W.heap[l]? = some o) (hc : o.isCells = false) (_ : o.isWalk = false) : KpB n0 B t W (W.putObj l o') := by
  have hg := chg_grown (grownBy_putObj' W l o')
  refine ⟨hg.size, fun k o2 hk hc2 _ _ => ?_, fun k hk => .inl (owned_kept ?_ k hk), ⟨hg.os, hg.tape, hg.output, hg.size, fun k hk => ?_⟩⟩
  · rw [hg.block k (lt_of_block hk) (fun e => by cases e; rw [h] at hk; cases hk; rw [hc] at hc2; cases hc2)]; exact hk
  · have := lt_of_block h
    exact hg.block B (by omega) (fun e => by cases e; omega)
  · have := lt_of_block h
    exact hg.block k (by omega) (fun e => by cases e; omega)
theorem KpB.app {W W' : World} {v v' : Value} (hv : Boxed W B t v) (hv' : Boxed W' B t v') (hc : Chg (fun g => g = B ∨ v.ownBlock = some g) W W') (h3 : v'.ownBlock = v.ownBlock ∨ ∃ g, v'.ownBlock = some g ∧ W.heap.size ≤ g) (hb : Below n0 W W') : KpB n0 B t W W' := by
  refine ⟨hc.size, fun k o hk _ hB hn => ?_, fun k hk => ?_, hb⟩
  · rw [hc.block k (lt_of_block hk) (fun hg => by rcases hg with h | h; exact hB h; exact hn ⟨v, hv, h⟩)]; exact hk
  · obtain ⟨v2, hv2, h2⟩ := hk
    have e : v2 = v' := by
      have := hv2.cell.symm.trans hv'.cell
      exact Option.some.inj this
    rw [e] at h2
    rcases h3 with h3 | ⟨g, h3, hg⟩
    · exact .inl ⟨v, hv, h3 ▸ h2⟩
    · rw [h3] at h2; cases h2; exact .inr hg
end
end Go.Proofs.YtameidoaenoppaaGreatDoor
