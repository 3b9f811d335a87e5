/- Laws to walk once a region whose order is drawn; no condition. -/
import Derived.OrdersHeld
import Derived.KernelRfl
import Derived.WalkKit
import Derived.Deep.RegionHeld3
/- A region that draws its order, walked ONCE: what only reads is taken first although a store of the same statement (number q, which waits for all that reads) writes what was read, and although a call or a new block (number c) gives some of it. -/
namespace Go.Proofs.YtameidoaenoppaaGreatDoor
section
variable {P : Program} {ops : Array Oper} {Q : Exit → Act → World → Prop} {md : Region.Mode}

/-- What holds of the world while the store q has not come up. -/
def Phase (q : Nat) (A : World → Prop) (L : Array Bool) (w : World) : Prop := L.getD q false = true ∨ A w

def wpAnyR (P : Program) (md : Region.Mode) (ops : Array Oper) (Q : Exit → Act → World → Prop) (q : Nat) (A : World → Prop) : Nat → Array Bool → Act → World → Prop
  | 0, listed, a, w => Region.ready md ops listed = [] ∧ Q .normal a w
  | fuel + 1, listed, a, w =>
    (Region.ready md ops listed = [] → Q .normal a w) ∧
    ∀ i ∈ Region.ready md ops listed, wpOp P ops Q i (fun a' w' => Phase q A (listed.setIfInBounds i true) w' ∧ wpAnyR P md ops Q q A fuel (listed.setIfInBounds i true) a' w') a w

theorem wpAny_of_R {q : Nat} {A : World → Prop} : ∀ (fuel : Nat) (listed : Array Bool) (a : Act) (w : World), wpAnyR P md ops Q q A fuel listed a w → wpAny P md ops Q fuel listed a w
  | 0, _, _, _, h => h
  | fuel + 1, _, _, _, h => ⟨h.1, fun i hi => wpOp_mono (fun a' w' h' => wpAny_of_R fuel _ a' w' h'.2) (h.2 i hi)⟩

theorem getD_set_far (L : Array Bool) {i j : Nat} (h : i ≠ j) (d : Bool) : (L.setIfInBounds i true).getD j d = L.getD j d := by
  simp [Array.getD_eq_getD_getElem?, Array.getElem?_setIfInBounds_ne h]

/-- T: what the operation i leans on: nothing, or A, and then q waits for i. -/
theorem wpAnyR_first {q i : Nat} {A T : World → Prop} {oi : Oper} {v : Value} (hi : ops[i]? = some oi) (hsel : ∀ (j : Nat) (o : Oper) cs b, ops[j]? = some o → o.op ≠ .select cs b)
    (hQ : ∀ c a w, Q (.panic c) (a.put oi.dst v) w → Q (.panic c) a w) (hiq : i ≠ q)
    (hT : (∀ w, T w) ∨ ((∀ w, A w → T w) ∧ ∀ oq, ops[q]? = some oq → ∃ e ∈ oq.after, Region.binds md e = true ∧ e.on = i)) :
    ∀ (fuel : Nat) (listed : Array Bool) (a : Act) (w : World),
      (∀ j oj, ops[j]? = some oj → j ≠ i → listed.getD j true = false → (∀ e ∈ oj.after, Region.binds md e = true → e.on ≠ i) → oi.apart ops oj = true) →
      i ∈ Region.ready md ops listed → YieldsIf P ops T oi v a → Phase q A listed w → T w → ((∀ w, T w) ∨ listed.getD q false = false) →
      wpAnyR P md ops Q q A fuel (listed.setIfInBounds i true) (a.put oi.dst v) w → wpAnyR P md ops Q q A (fuel + 1) listed a w := by
  intro fuel
  have here : ∀ (listed : Array Bool) (w : World), Phase q A listed w → Phase q A (listed.setIfInBounds i true) w := fun listed w h => by
    rcases h with h | h
    · left; rw [getD_set_far listed hiq]; exact h
    · right; exact h
  induction fuel with
  | zero =>
    intro listed a w _ hr hy hP hw _ H
    refine ⟨fun h => (by rw [h] at hr; cases hr), fun j hj => ?_⟩
    by_cases hji : j = i
    · subst hji; exact hy.wpOp hi hw ⟨here _ _ hP, H⟩
    · have := ready_mono hj hji
      rw [H.1] at this
      cases this
  | succ fuel ih =>
    intro listed a w hfree hr hy hP hw hLq H
    refine ⟨fun h => (by rw [h] at hr; cases hr), fun j hj => ?_⟩
    by_cases hji : j = i
    · subst hji; exact hy.wpOp hi hw ⟨here _ _ hP, H⟩
    · have h1 := H.2 j (ready_mono hj hji)
      obtain ⟨hjun, oj, hoj, hall⟩ := mem_ready.1 hj
      have hnot : ∀ e ∈ oj.after, Region.binds md e = true → e.on ≠ i := fun e he hb heq => by
        have h1 := hall e he hb
        have h0 := (mem_ready.1 hr).1
        rw [heq] at h1
        rcases Nat.lt_or_ge i listed.size with h' | h'
        · simp [h'] at h0 h1; rw [h0] at h1; cases h1
        · simp [Array.getElem?_eq_none h'] at h1
      have h2 := wpOp_putIf hoj (hfree j oj hoj hji hjun hnot) (fun cs b => hsel i oi cs b hi) (fun cs b => hsel j oj cs b hoj) hQ hy h1
      have hfree' : ∀ k ok, ops[k]? = some ok → k ≠ i → (listed.setIfInBounds j true).getD k true = false →
          (∀ e ∈ ok.after, Region.binds md e = true → e.on ≠ i) → oi.apart ops ok = true := fun k ok hk hki hun hno => by
        refine hfree k ok hk hki ?_ hno
        by_cases hjk : j = k
        · subst hjk; exact hjun
        · rw [getD_set_ne true hjk] at hun; exact hun
      refine wpOp_mono (fun a' w' h3 => ?_) h2
      have hP1 : Phase q A (listed.setIfInBounds j true) w' := by
        rcases h3.2.1 with h4 | h4
        · left; rw [Array.setIfInBounds_comm _ _ (Ne.symm hji), getD_set_far _ hiq] at h4; exact h4
        · right; exact h4
      have key : T w' ∧ ((∀ w, T w) ∨ (listed.setIfInBounds j true).getD q false = false) := by
        rcases hLq with hall' | hLq
        · exact ⟨hall' _, .inl hall'⟩
        · rcases hT with hT | ⟨hT, hwait⟩
          · exact ⟨hT _, .inl hT⟩
          · have hjq : j ≠ q := fun e => by
              subst e
              obtain ⟨e, he, hb, ho⟩ := hwait oj hoj
              exact hnot e he hb ho
            have hq1 : (listed.setIfInBounds j true).getD q false = false := by rw [getD_set_far listed hjq]; exact hLq
            refine ⟨hT _ ?_, .inr hq1⟩
            rcases hP1 with h4 | h4
            · rw [hq1] at h4; cases h4
            · exact h4
      refine ⟨hP1, ih (listed.setIfInBounds j true) a' w' hfree' (ready_mono hr (Ne.symm hji)) h3.1 hP1 key.1 key.2 ?_⟩
      rw [Array.setIfInBounds_comm _ _ hji]
      exact h3.2.2

/-- Does the operation q wait for i (or is there none)? -/
def waitsB (md : Region.Mode) (ops : Array Oper) (q i : Nat) : Bool := match ops[q]? with
  | none => true
  | some o => o.after.any fun e => Region.binds md e && e.on == i
theorem waitsB_spec {q i : Nat} (h : waitsB md ops q i = true) : ∀ oq, ops[q]? = some oq → ∃ e ∈ oq.after, Region.binds md e = true ∧ e.on = i := by
  intro oq ho
  unfold waitsB at h
  rw [ho] at h
  obtain ⟨k, hk, he⟩ := Array.any_eq_true.1 h
  rw [Bool.and_eq_true, beq_iff_eq] at he
  exact ⟨oq.after[k], Array.getElem_mem hk, he.1, he.2⟩

/-- One thing only reads: its value, whatever else has come up. -/
theorem R_take {q : Nat} {A : World → Prop} (i : Nat) {oi : Oper} {fuel : Nat} {listed : Array Bool} {a : Act} {w : World} (hi : ops[i]? = some oi)
    (hs : (Region.noSelect ops && Region.free md ops listed i && (Region.ready md ops listed).contains i && i != q && waitsB md ops q i && !listed.getD q false) = true) (hP : Phase q A listed w)
    (h : ∃ v, (∀ c a w, Q (.panic c) (a.put oi.dst v) w → Q (.panic c) a w) ∧ YieldsIf P ops A oi v a ∧ (Phase q A (listed.setIfInBounds i true) w → wpAnyR P md ops Q q A fuel (listed.setIfInBounds i true) (a.put oi.dst v) w)) :
    wpAnyR P md ops Q q A (fuel + 1) listed a w := by
  simp only [Bool.and_eq_true, Bool.not_eq_true'] at hs
  obtain ⟨⟨⟨⟨⟨k1, k2⟩, k3⟩, k4⟩, k5⟩, k6⟩ := hs
  have hA : A w := by
    rcases hP with h1 | h1
    · rw [k6] at h1; cases h1
    · exact h1
  obtain ⟨v, hQ, hy, h⟩ := h
  exact wpAnyR_first (T := A) hi (Region.noSelect_spec k1) hQ (by simpa using k4) (.inr ⟨fun _ h => h, waitsB_spec k5⟩) fuel listed a w (Region.free_spec hi k2) (by simpa using k3) hy hP hA (.inr k6) (h (.inr hA))

/-- One thing does not look at memory. -/
theorem R_pure {q : Nat} {A : World → Prop} (i : Nat) {oi : Oper} {fuel : Nat} {listed : Array Bool} {a : Act} {w : World} (hi : ops[i]? = some oi)
    (hs : (Region.noSelect ops && Region.free md ops listed i && (Region.ready md ops listed).contains i && i != q) = true) (hP : Phase q A listed w)
    (h : ∃ v, (∀ c a w, Q (.panic c) (a.put oi.dst v) w → Q (.panic c) a w) ∧ YieldsIf P ops (fun _ => True) oi v a ∧ (Phase q A (listed.setIfInBounds i true) w → wpAnyR P md ops Q q A fuel (listed.setIfInBounds i true) (a.put oi.dst v) w)) :
    wpAnyR P md ops Q q A (fuel + 1) listed a w := by
  simp only [Bool.and_eq_true] at hs
  obtain ⟨⟨⟨k1, k2⟩, k3⟩, k4⟩ := hs
  have hiq : i ≠ q := by simpa using k4
  obtain ⟨v, hQ, hy, h⟩ := h
  refine wpAnyR_first (T := fun _ => True) hi (Region.noSelect_spec k1) hQ hiq (.inl fun _ => trivial) fuel listed a w (Region.free_spec hi k2) (by simpa using k3) hy hP trivial (.inl fun _ => trivial) (h ?_)
  rcases hP with h1 | h1
  · left; rw [getD_set_far listed hiq]; exact h1
  · right; exact h1

/-- Whichever of those that may come up comes up. -/
def AllR (P : Program) (md : Region.Mode) (ops : Array Oper) (Q : Exit → Act → World → Prop) (q : Nat) (A : World → Prop) (fuel : Nat) (listed : Array Bool) (a : Act) (w : World) (rs : List Nat) : Prop :=
  ∀ i ∈ rs, wpOp P ops Q i (fun a' w' => Phase q A (listed.setIfInBounds i true) w' ∧ wpAnyR P md ops Q q A fuel (listed.setIfInBounds i true) a' w') a w
theorem R_all {q : Nat} {A : World → Prop} (rs : List Nat) {fuel : Nat} {listed : Array Bool} {a : Act} {w : World} (hr : (Region.ready md ops listed == rs && rs != []) = true)
    (h : AllR P md ops Q q A fuel listed a w rs) : wpAnyR P md ops Q q A (fuel + 1) listed a w := by
  simp only [Bool.and_eq_true, beq_iff_eq] at hr
  refine ⟨fun h0 => (by rw [hr.1] at h0; rw [h0] at hr; simp at hr), fun j hj => h j (by rw [hr.1] at hj; exact hj)⟩
theorem AllR.nil {q : Nat} {A : World → Prop} {fuel : Nat} {listed : Array Bool} {a : Act} {w : World} : AllR P md ops Q q A fuel listed a w [] := fun _ h => by cases h
theorem AllR.cons {q : Nat} {A : World → Prop} {i : Nat} {rs : List Nat} {oi : Oper} {fuel : Nat} {listed : Array Bool} {a : Act} {w : World} (hi : ops[i]? = some oi)
    (h : ∀ K' : Act → World → Prop, Shut (∀ a' w', Phase q A (listed.setIfInBounds i true) w' → (Phase q A (listed.setIfInBounds i true) w' → wpAnyR P md ops Q q A fuel (listed.setIfInBounds i true) a' w') → K' a' w') →
      if Region.wanted oi (yielded ops a.tmps) = true then Oper.wp P oi a w K' Q else K' (a.put oi.dst undef) w)
    (hs : AllR P md ops Q q A fuel listed a w rs) : AllR P md ops Q q A fuel listed a w (i :: rs) := by
  intro j hj
  rcases List.mem_cons.1 hj with rfl | hj
  · have h1 := h (fun a' w' => Phase q A (listed.setIfInBounds j true) w' ∧ wpAnyR P md ops Q q A fuel (listed.setIfInBounds j true) a' w') (fun _ _ h1 h2 => ⟨h1, h2 h1⟩)
    unfold wpOp
    rw [hi]
    show if Region.wanted oi (yielded ops a.tmps) = true then _ else _
    split
    · rename_i hw; rw [if_pos hw] at h1; exact .inl h1
    · rename_i hw; rw [if_neg hw] at h1; exact h1
  · exact hs j hj
theorem R_done {q : Nat} {A : World → Prop} {fuel : Nat} {listed : Array Bool} {a : Act} {w : World} (hr : (Region.ready md ops listed == []) = true) (h : Q .normal a w) : wpAnyR P md ops Q q A fuel listed a w := by
  have hr' : Region.ready md ops listed = [] := by simpa using hr
  cases fuel with
  | zero => exact ⟨hr', h⟩
  | succ n => exact ⟨fun _ => h, (by rw [hr']; simp)⟩
theorem R_begin (q : Nat) (A : World → Prop) {id : Nat} {a : Act} {w : World} (hm : P.follows .mixedOrders = true) (hA : A w.drew)
    (h : Phase q A (Array.replicate ops.size false) w.drew → wpAnyR P .any ops Q q A ops.size (Array.replicate ops.size false) a w.drew) : (Code.region id ops true).wp P Q a w :=
  wp_region_any hm (wpAny_of_R _ _ _ _ (h (.inr hA)))
end
end Go.Proofs.YtameidoaenoppaaGreatDoor
