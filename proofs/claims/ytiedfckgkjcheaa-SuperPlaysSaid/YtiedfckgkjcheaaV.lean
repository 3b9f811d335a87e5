/- The plain law of SuperAgain: what runs behind an end that is no giving up, and what is told of it. -/
import Derived.Test.YtiedfckgkjcheaaU
namespace Go.Proofs.Ytiedfckgkjcheaa
open Go.RowKit

def kid (c : Ch) : CS := ⟨c.name, c.rs⟩
theorem kids_get {cs : List CS} {s : SupM} (h : s.l.map kid = cs) (i : Nat) (d : Ch) (hd : s.l[i]? = some d) : cs[i]? = some (kid d) := by
  rw [← h, List.getElem?_map, hd]; rfl
theorem kids_exit {cs : List CS} {s : SupM} (h : s.l.map kid = cs) {k : Nat} {c : Ch} (hk : s.l[k]? = some c) (normal : Bool) (tick : Int) : (exitS s k c normal tick).1.l.map kid = cs := by
  rw [← h]
  apply List.ext_getElem?
  intro i
  rw [List.getElem?_map, List.getElem?_map]
  cases hd : s.l[i]? with
  | none =>
    rw [List.getElem?_eq_none_iff] at hd
    have : (exitS s k c normal tick).1.l[i]? = none := by rw [List.getElem?_eq_none_iff, exit_len]; exact hd
    rw [this]
  | some d =>
    rw [exit_get hk normal tick i d hd]
    have := exitC_name s k c normal (overB s tick) i d (fun e => by subst e; rw [hk] at hd; exact (Option.some.inj hd).symm)
    simp [kid, this.1, this.2]
theorem mem_running (l : List Ch) (x : ByteArray) : x ∈ runningL l ↔ ∃ (i : Nat) (d : Ch), l[i]? = some d ∧ d.runs = true ∧ d.name = x := by
  unfold runningL
  rw [List.mem_map]
  constructor
  · rintro ⟨d, hd, rfl⟩
    obtain ⟨h1, h2⟩ := List.mem_filter.1 hd
    obtain ⟨i, hi⟩ := List.mem_iff_getElem?.1 h1
    exact ⟨i, d, hi, h2, rfl⟩
  · rintro ⟨i, d, hd, hr, rfl⟩
    exact ⟨d, List.mem_filter.2 ⟨List.mem_of_getElem? hd, hr⟩, rfl⟩
def Uniq (cs : List CS) : Prop := ∀ (i j : Nat) (c d : CS), cs[i]? = some c → cs[j]? = some d → c.name = d.name → i = j
theorem restL_of {cs : List CS} (hu : Uniq cs) {i : Nat} {c : CS} (hc : cs[i]? = some c) : restL cs c.name = c.rs := by
  induction cs generalizing i with
  | nil => simp at hc
  | cons x r ih =>
    rw [restL]
    cases i with
    | zero => simp at hc; subst hc; rw [beqS_self]; rfl
    | succ i =>
      have hc' : r[i]? = some c := by simpa using hc
      have hne : beqS x.name c.name = false := beqS_ne.2 fun e => by
        have := hu 0 (i + 1) x c rfl hc e
        omega
      rw [hne]
      exact ih (fun a b u v hu' hv' e => by have := hu (a + 1) (b + 1) u v (by simpa using hu') (by simpa using hv') e; omega) hc'
theorem dupB_mem (cs : List CS) : ∀ (seen : List CS), dupB seen cs = false → ∀ (j : Nat) (d : CS), cs[j]? = some d → (∀ c ∈ seen, c.name ≠ d.name) ∧ ∀ (i : Nat) (c : CS), i < j → cs[i]? = some c → c.name ≠ d.name := by
  induction cs with
  | nil => intro seen _ j d hd; simp at hd
  | cons x r ih =>
    intro seen h j d hd
    rw [dupB, Bool.or_eq_false_iff] at h
    obtain ⟨h1, h2⟩ := h
    cases j with
    | zero =>
      simp at hd
      subst hd
      refine ⟨fun c hc e => ?_, fun i c hi => by omega⟩
      rw [List.any_eq_false] at h1
      exact h1 c hc ((beqS_iff _ _).2 e)
    | succ j =>
      obtain ⟨g1, g2⟩ := ih (seen ++ [x]) h2 j d (by simpa using hd)
      refine ⟨fun c hc => g1 c (by simp [hc]), fun i c hi hc => ?_⟩
      cases i with
      | zero => simp at hc; subst hc; exact g1 x (by simp)
      | succ i => exact g2 i c (by omega) (by simpa using hc)
theorem uniq_of_dup {cs : List CS} (h : dupB [] cs = false) : Uniq cs := by
  intro i j c d hc hd e
  rcases Nat.lt_trichotomy i j with h1 | h1 | h1
  · exact absurd e ((dupB_mem cs [] h j d hd).2 i c h1 hc)
  · exact h1
  · exact absurd e.symm ((dupB_mem cs [] h i c hc).2 j d h1 hd)
theorem new_ok {st it pe : Int} {cs : List CS} (h : newErr st it pe cs = 0) : (1 ≤ st ∧ st ≤ 3 ∧ 1 ≤ pe ∧ pe ≤ 1152921504606846976 ∧ 0 ≤ it ∧ it ≤ 1000) ∧ cs.length ≤ 32 ∧ Uniq cs ∧ ∀ c ∈ cs, 1 ≤ c.rs ∧ c.rs ≤ 3 := by
  unfold newErr at h
  split at h
  · cases h
  rename_i h1
  split at h
  · cases h
  rename_i h2
  split at h
  · cases h
  split at h
  · cases h
  split at h
  · cases h
  rename_i h3
  refine ⟨by simp [badB] at h1; omega, by omega, uniq_of_dup (by simpa using h3), fun c hc => ?_⟩
  have := h2
  simp [rightB] at this
  exact this c hc

/-- All that a supervisor behind its start keeps. -/
structure Inv (st : Nat) (it pe : Int) (cs : List CS) (n : Nat) (s : SupM) : Prop where
  st : s.st = st
  it : s.it = it
  pe : s.pe = pe
  kids : s.l.map kid = cs
  ends : s.ends.length ≤ n
  pos : ∀ t ∈ s.ends, 0 ≤ t
theorem Inv.len {st : Nat} {it pe : Int} {cs : List CS} {n : Nat} {s : SupM} (h : Inv st it pe cs n s) : s.l.length = cs.length := by rw [← h.kids, List.length_map]
theorem exit_rest (s : SupM) (k : Nat) (c : Ch) (normal : Bool) (tick : Int) : (exitS s k c normal tick).1.st = s.st ∧ (exitS s k c normal tick).1.it = s.it ∧ (exitS s k c normal tick).1.pe = s.pe ∧ (exitS s k c normal tick).1.sd = s.sd ∧
    (exitS s k c normal tick).1.la = tick ∧ (exitS s k c normal tick).1.ends = (if calmB c normal then s.ends else s.ends ++ [tick]) ∧ (exitS s k c normal tick).1.ov = (if calmB c normal then s.ov else overB s tick || s.ov) := by
  unfold exitS
  by_cases h3 : c.rs = 3
  · rw [if_pos h3, if_pos (calm_or.2 (.inl h3)), if_pos (calm_or.2 (.inl h3))]
    exact ⟨rfl, rfl, rfl, rfl, rfl, rfl, rfl⟩
  rw [if_neg h3]
  by_cases h2 : c.rs = 2 ∧ normal = true
  · rw [if_pos h2, if_pos (calm_or.2 (.inr h2)), if_pos (calm_or.2 (.inr h2))]
    exact ⟨rfl, rfl, rfl, rfl, rfl, rfl, rfl⟩
  have hc : ¬ calmB c normal = true := fun h => (calm_or.1 h).elim h3 h2
  rw [if_neg h2, if_neg hc, if_neg hc]
  by_cases ho : s.it < countL (s.ends ++ [tick]) tick s.pe
  · rw [if_pos ho]
    exact ⟨rfl, rfl, rfl, rfl, rfl, rfl, by simp [overB, ho]⟩
  · rw [if_neg ho]
    exact ⟨rfl, rfl, rfl, rfl, rfl, rfl, by simp [overB, ho]⟩
theorem Inv.exit {st : Nat} {it pe : Int} {cs : List CS} {n : Nat} {s : SupM} (h : Inv st it pe cs n s) {k : Nat} {c : Ch} (hk : s.l[k]? = some c) (normal : Bool) (tick : Int) (h0 : 0 ≤ tick) : Inv st it pe cs (n + 1) (exitS s k c normal tick).1 := by
  obtain ⟨e1, e2, e3, _, _, e6, _⟩ := exit_rest s k c normal tick
  refine ⟨e1.trans h.st, e2.trans h.it, e3.trans h.pe, kids_exit h.kids hk normal tick, ?_, ?_⟩
  · rw [e6]
    have := h.ends
    split
    · omega
    · simp; omega
  · rw [e6]
    split
    · exact h.pos
    · intro t ht
      rcases List.mem_append.1 ht with h1 | h1
      · exact h.pos t h1
      · simp at h1; omega
theorem Inv.up {st : Nat} {it pe : Int} {cs : List CS} {n m : Nat} {s : SupM} (h : Inv st it pe cs n s) (hm : n ≤ m) : Inv st it pe cs m s := ⟨h.st, h.it, h.pe, h.kids, Nat.le_trans h.ends hm, h.pos⟩
theorem exit_ok {s : SupM} {r tick : Int} (h : exitErr s r tick = 0) : s.sd = true ∧ s.ov = false ∧ 0 ≤ r ∧ 0 ≤ tick ∧ s.la ≤ tick ∧ tick ≤ 1152921504606846976 := by
  unfold exitErr at h
  split at h
  · cases h
  rename_i h1
  split at h
  · cases h
  split at h
  · cases h
  refine ⟨by simpa using fun e => h1 (.inl e), by simpa using fun e => h1 (.inr e), by omega, by omega, by omega, by omega⟩
theorem overB_not {st : Nat} {pe : Int} {cs : List CS} {n : Nat} {s : SupM} (h : Inv st 1000 pe cs n s) (hn : n < 1000) (tick : Int) : overB s tick = false := by
  unfold overB
  have h1 := countL_le (s.ends ++ [tick]) tick s.pe
  have h2 := h.ends
  rw [h.it]
  simp at h1 ⊢
  omega
theorem again_runs {cs : List CS} {s : SupM} (hkids : s.l.map kid = cs) (hu : Uniq cs) {k : Nat} {c : Ch} (hk : s.l[k]? = some c) (normal : Bool) (tick : Int) (ho : overB s tick = false) (x : ByteArray) (hx : x ∈ runningL s.l)
    (h3 : restL cs x ≠ 3) (haw : ¬ (x = c.name ∧ restL cs x = 2 ∧ normal = true)) : x ∈ runningL (exitS s k c normal tick).1.l := by
  obtain ⟨i, d, hd, hdr, rfl⟩ := (mem_running _ _).1 hx
  rw [show restL cs d.name = d.rs from restL_of hu (kids_get hkids i d hd)] at h3 haw
  refine (mem_running _ _).2 ⟨i, _, exit_get hk normal tick i d hd, ?_, (exitC_name s k c normal (overB s tick) i d (fun e => by subst e; rw [hk] at hd; exact (Option.some.inj hd).symm)).1⟩
  rw [ho]
  unfold exitC
  by_cases e : i = k
  · subst e
    rw [hk] at hd
    cases hd
    have : ¬ calmB c normal = true := fun h => (calm_or.1 h).elim h3 fun h => haw ⟨rfl, h.1, h.2⟩
    rw [if_neg this]
    simp [setR]
  · repeat' split
    all_goals first | exact hdr | exact absurd ‹false = true› (by decide) | rfl | exact absurd ‹i = k› e | exact absurd ‹d.rs = 3› h3
theorem again_acts {s : SupM} {k : Nat} {c : Ch} (hk : s.l[k]? = some c) (normal : Bool) (tick : Int) (ho : overB s tick = false) (hst : s.st = 1) : (exitS s k c normal tick).2 = [] ∨ (exitS s k c normal tick).2 = [⟨true, c.name⟩] := by
  unfold exitS
  by_cases h3 : c.rs = 3
  · rw [if_pos h3]; exact .inl rfl
  rw [if_neg h3]
  by_cases h2 : c.rs = 2 ∧ normal = true
  · rw [if_pos h2]; exact .inl rfl
  rw [if_neg h2, if_neg (by unfold overB at ho; simpa using ho)]
  refine .inr ?_
  show dA (exL s k c) (withF s.st k) 0 ++ upA (exS s k c) (exA s k c) = _
  have hw : ∀ i, withF s.st k i = false := fun i => by rw [hst]; rfl
  have e1 : dA (exL s k c) (withF s.st k) 0 = [] := by
    unfold dA
    rw [List.filter_eq_nil_iff.2 (by intro x _; rw [hw]; simp)]; rfl
  have hlen : (exS s k c).length = s.l.length := by simp [exS, exL]
  have hlt := (List.getElem?_eq_some_iff.1 hk).1
  have e2 : ∀ m, m ≤ s.l.length → upAk (exS s k c) (exA s k c) m = if k < m then [⟨true, c.name⟩] else [] := by
    intro m
    induction m with
    | zero => intro _; rfl
    | succ m ih =>
      intro hm
      have hd := List.getElem?_eq_getElem (show m < s.l.length by omega)
      rw [upAk_step _ _ m (by omega), ih (by omega), exA_get hk m _ hd]
      have hg := exS_get hk m _ hd
      rw [hw] at hg ⊢
      by_cases e : m = k
      · subst e
        rw [if_neg (Nat.lt_irrefl _), if_pos rfl, if_pos (Nat.lt_succ_self _)]
        have hx : (exS s m c)[m]'(by omega) = setR false c := by
          rw [List.getElem?_eq_getElem (by omega), if_pos rfl] at hg
          exact Option.some.inj hg
        rw [hx]; rfl
      · rw [if_neg e, Bool.and_false]
        simp only [Bool.false_eq_true, if_false, List.append_nil]
        by_cases h : k < m
        · rw [if_pos h, if_pos (by omega : k < m + 1)]
        · rw [if_neg h, if_neg (by omega : ¬ k < m + 1)]
  rw [e1, ← upAk_all _ _ s.l.length (by omega), e2 _ (Nat.le_refl _), if_pos hlt]
  rfl

end Go.Proofs.Ytiedfckgkjcheaa
