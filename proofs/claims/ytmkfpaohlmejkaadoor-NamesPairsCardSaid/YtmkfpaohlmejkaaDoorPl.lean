/- Plain: where a new name belongs, what Add answers and makes; no condition. -/
import Derived.Test.YtmkfpaohlmejkaaDoorN
namespace Go.Proofs.YtmkfpaohlmejkaaDoor
open Go.RowKit

/-- How many names are below one. -/
def posN (l : List En) (s : ByteArray) : Nat := l.countP (fun x => decide (ltS x.n s))
def addE (l : List En) (s : ByteArray) (p : Int) : Int :=
  if okA s = false ∨ s = undefS then 20 else if ¬ IsPid p then 1 else if (atN l s).isSome ∨ (atP l p).isSome then 6 else if 64 ≤ l.length then 8 else 0
def addL (l : List En) (s : ByteArray) (p : Int) : List En := if addE l s p = 0 then ins l ⟨s, p⟩ (posN l s) else l
theorem insAt_pos {l : List En} (h : l.Pairwise (fun x y => ltS x.n y.n)) {e : En} (hn : ∀ x ∈ l, x.n ≠ e.n) : InsAt l e (posN l e.n) := by
  induction l with
  | nil => exact ⟨Nat.le_refl _, fun _ h => (by simp at h), fun _ h => (by simp at h)⟩
  | cons y l ih =>
    obtain ⟨h1, h2⟩ := List.pairwise_cons.1 h
    have ih := ih h2 fun x hx => hn x (.tail _ hx)
    unfold posN at ih ⊢
    by_cases hy : ltS y.n e.n
    · rw [List.countP_cons_of_pos (by simpa using hy)]
      refine ⟨by have := ih.le; simp only [List.length_cons]; omega, fun x hx => ?_, fun x hx => ?_⟩
      · rw [List.take_succ_cons] at hx
        rcases List.mem_cons.1 hx with rfl | hx
        · exact hy
        · exact ih.lo x hx
      · rw [List.drop_succ_cons] at hx
        exact ih.hi x hx
    · have hey : ltS e.n y.n := (ltS.tri (hn y (.head _))).resolve_left hy
      have h0 : l.countP (fun x => decide (ltS x.n e.n)) = 0 := by
        rw [List.countP_eq_zero]
        intro x hx
        have h3 := h1 x hx
        simp only [decide_eq_true_eq]
        exact fun h4 => ltS.irr _ ((hey.trans h3).trans h4)
      rw [List.countP_cons_of_neg (by simpa using hy), h0]
      refine ⟨Nat.zero_le _, fun x hx => (by simp at hx), fun x hx => ?_⟩
      rw [List.drop_zero] at hx
      rcases List.mem_cons.1 hx with rfl | hx
      · exact hey
      · exact hey.trans (h1 x hx)
section
variable {l : List En} {s : ByteArray} {p : Int}
theorem addE_ok (h : addE l s p = 0) : okA s = true ∧ s ≠ undefS ∧ IsPid p ∧ atN l s = none ∧ atP l p = none ∧ l.length < 64 := by
  unfold addE at h
  by_cases h1 : okA s = false ∨ s = undefS
  · rw [if_pos h1] at h; omega
  · rw [if_neg h1] at h
    by_cases h2 : IsPid p
    · rw [if_neg (fun k => k h2)] at h
      by_cases h3 : (atN l s).isSome ∨ (atP l p).isSome
      · rw [if_pos h3] at h; omega
      · rw [if_neg h3] at h
        by_cases h4 : 64 ≤ l.length
        · rw [if_pos h4] at h; omega
        · rw [not_or] at h1 h3
          exact ⟨by simpa using h1.1, h1.2, h2, by simpa using h3.1, by simpa using h3.2, by omega⟩
    · rw [if_pos h2] at h; omega
theorem GOk.add (h : GOk l) : GOk (addL l s p) := by
  unfold addL
  by_cases h0 : addE l s p = 0
  · rw [if_pos h0]
    obtain ⟨a, b, c, d, e, f⟩ := addE_ok h0
    exact h.ins (insAt_pos h.rise (e := ⟨s, p⟩) (atN_none d)) e ⟨a, b, c⟩ f
  · rw [if_neg h0]; exact h
theorem put_who (h : addE l s p = 0) : (putE (whoE l) s (.int .i64 p)).Perm (whoE (addL l s p)) := by
  obtain ⟨_, _, _, d, _, _⟩ := addE_ok h
  unfold addL
  rw [if_pos h]
  have h1 : cut (whoE l) s = whoE l := cut_none (by rw [look_who, d]; rfl)
  unfold putE
  rw [h1]
  refine List.Perm.trans List.perm_append_comm ?_
  exact (ins_perm l ⟨s, p⟩ (posN l s)).map (fun x : En => (x.n, Value.int .i64 x.p))
theorem put_name (h : addE l s p = 0) : (putE (nameE l) p (.string s)).Perm (nameE (addL l s p)) := by
  obtain ⟨_, _, _, _, d, _⟩ := addE_ok h
  unfold addL
  rw [if_pos h]
  have h1 : cut (nameE l) p = nameE l := cut_none (by rw [look_name, d]; rfl)
  unfold putE
  rw [h1]
  refine List.Perm.trans List.perm_append_comm ?_
  exact (ins_perm l ⟨s, p⟩ (posN l s)).map (fun x : En => (x.p, Value.string x.n))
end
end Go.Proofs.YtmkfpaohlmejkaaDoor
