/- Plain: whom a process is linked with, groups, and a search that finds one; no condition. -/
import Derived.Test.YtlbbheopoflmjaaMapR
import Derived.Test.YtlbbheopoflmjaaOe
namespace Go.Proofs.Ytlbbheopoflmjaa
open Go.RowKit

/-- A rising list of the numbers of which P holds. -/
def SetOf (S : List Int) (P : Int → Prop) : Prop := S.Pairwise (· < ·) ∧ ∀ x, x ∈ S ↔ P x
theorem SetOf.uniq {S T : List Int} {P : Int → Prop} (h : SetOf S P) (k : SetOf T P) : S = T := by
  have hn : ∀ {l : List Int}, l.Pairwise (· < ·) → l.Nodup := fun h => h.imp (fun h => by omega)
  have hp : S.Perm T := (List.perm_ext_iff_of_nodup (hn h.1) (hn k.1)).2 fun x => (h.2 x).trans (k.2 x).symm
  exact hp.eq_of_pairwise (fun a b _ _ h1 h2 => by omega) h.1 k.1
theorem SetOf.imp {S : List Int} {P Q : Int → Prop} (h : SetOf S P) (e : ∀ x, P x ↔ Q x) : SetOf S Q := ⟨h.1, fun x => (h.2 x).trans (e x)⟩
theorem SetOf.nodup {S : List Int} {P : Int → Prop} (h : SetOf S P) : S.Nodup := h.1.imp (fun h => by omega)
theorem srt_set {l : List Int} (h : l.Nodup) : SetOf (srt l) (· ∈ l) := by
  have h1 : (srt l).Pairwise (fun x y => x ≤ y) := by
    have := List.pairwise_mergeSort (le := fun x y : Int => decide (x ≤ y)) (fun a b c h1 h2 => by simp at h1 h2 ⊢; omega) (fun a b => by simp; omega) l
    exact this.imp (fun h => by simpa using h)
  have hp : (srt l).Perm l := List.mergeSort_perm l _
  have h2 : (srt l).Nodup := hp.nodup_iff.2 h
  refine ⟨?_, fun x => hp.mem_iff⟩
  exact (List.Pairwise.and h1 h2).imp (fun h => by omega)
def Nb (L : List Bd) (x y : Int) : Prop := ∃ b ∈ L, b.r = 0 ∧ (b.a = x ∧ y = b.b ∨ b.b = x ∧ y = b.a)
theorem Nb.symm {L : List Bd} {x y : Int} (h : Nb L x y) : Nb L y x := by
  obtain ⟨b, h1, h2, h3⟩ := h
  refine ⟨b, h1, h2, ?_⟩
  rcases h3 with ⟨h3, h4⟩ | ⟨h3, h4⟩
  · exact .inr ⟨h4.symm, h3.symm⟩
  · exact .inl ⟨h4.symm, h3.symm⟩
inductive Reach (L : List Bd) (s : Int) : Int → Prop
  | base : Reach L s s
  | step {x y : Int} : Reach L s x → Nb L x y → Reach L s y
theorem Reach.trans {L : List Bd} {a b c : Int} (h : Reach L a b) (k : Reach L b c) : Reach L a c := by
  induction k with
  | base => exact h
  | step _ h2 ih => exact .step ih h2
theorem Reach.symm {L : List Bd} {a b : Int} (h : Reach L a b) : Reach L b a := by
  induction h with
  | base => exact .base
  | step _ h2 ih => exact Reach.trans (.step .base h2.symm) ih
def uni (L : List Bd) (s : Int) : List Int := s :: L.flatMap (fun b => [b.a, b.b])
theorem uni_len (L : List Bd) (s : Int) : (uni L s).length = 1 + 2 * L.length := by
  unfold uni
  rw [List.length_cons, List.length_flatMap]
  have : L.map (fun b : Bd => [b.a, b.b].length) = L.map (fun _ => 2) := rfl
  rw [this, List.map_const', List.sum_replicate_nat]
  omega
theorem Nb.uni {L : List Bd} {x y : Int} (s : Int) (h : Nb L x y) : y ∈ uni L s := by
  obtain ⟨b, h1, _, h3⟩ := h
  refine List.mem_cons_of_mem _ (List.mem_flatMap.2 ⟨b, h1, ?_⟩)
  rcases h3 with ⟨_, h4⟩ | ⟨_, h4⟩ <;> simp [h4]
theorem Reach.uni {L : List Bd} {s x : Int} (h : Reach L s x) : x ∈ uni L s := by
  cases h with
  | base => exact List.mem_cons_self ..
  | step _ h2 => exact h2.uni s
/-- A search under way: who is met, who is still to be asked. -/
structure Bfs (L : List Bd) (s : Int) (M T : List Int) : Prop where
  mem : s ∈ M
  nd : M.Nodup
  tm : ∀ x ∈ T, x ∈ M
  reach : ∀ x ∈ M, Reach L s x
  closed : ∀ x ∈ M, x ∉ T → ∀ y, Nb L x y → y ∈ M
theorem Bfs.start (L : List Bd) (s : Int) : Bfs L s [s] [s] :=
  ⟨by simp, by simp, fun x h => h, fun x h => by rw [List.mem_singleton.1 h]; exact .base, fun x h h2 => absurd h h2⟩
def news (M S : List Int) : List Int := S.filter (fun y => decide (y ∉ M))
theorem Bfs.step {L : List Bd} {s x : Int} {M T S : List Int} (h : Bfs L s M (x :: T)) (hS : SetOf S (Nb L x)) : Bfs L s (M ++ news M S) (T ++ news M S) := by
  have hx := h.tm x (List.mem_cons_self ..)
  refine ⟨List.mem_append_left _ h.mem, ?_, ?_, ?_, ?_⟩
  · rw [List.nodup_append]
    refine ⟨h.nd, hS.nodup.sublist (List.filter_sublist ..), fun a ha b hb => ?_⟩
    rintro rfl
    have := (List.mem_filter.1 hb).2
    simp at this
    exact this ha
  · intro y hy
    rcases List.mem_append.1 hy with hy | hy
    · exact List.mem_append_left _ (h.tm y (List.mem_cons_of_mem _ hy))
    · exact List.mem_append_right _ hy
  · intro y hy
    rcases List.mem_append.1 hy with hy | hy
    · exact h.reach y hy
    · exact .step (h.reach x hx) ((hS.2 y).1 (List.mem_filter.1 hy).1)
  · intro y hy hT z hz
    by_cases hyM : y ∈ M
    · by_cases hyx : y = x
      · subst hyx
        by_cases hzM : z ∈ M
        · exact List.mem_append_left _ hzM
        · exact List.mem_append_right _ (List.mem_filter.2 ⟨(hS.2 z).2 hz, by simpa using hzM⟩)
      · refine List.mem_append_left _ (h.closed y hyM (fun hc => ?_) z hz)
        rcases List.mem_cons.1 hc with hc | hc
        · exact hyx hc
        · exact hT (List.mem_append_left _ hc)
    · rcases List.mem_append.1 hy with hy | hy
      · exact absurd hy hyM
      · exact absurd (List.mem_append_right _ hy) hT
theorem Bfs.len {L : List Bd} {s : Int} {M T : List Int} (h : Bfs L s M T) : M.length ≤ 1 + 2 * L.length := by
  rw [← uni_len L s]
  exact nodup_len h.nd (fun y hy => (h.reach y hy).uni)
theorem Bfs.done {L : List Bd} {s : Int} {M : List Int} (h : Bfs L s M []) (x : Int) : x ∈ M ↔ Reach L s x := by
  refine ⟨h.reach x, fun hr => ?_⟩
  induction hr with
  | base => exact h.mem
  | step _ h2 ih => exact h.closed _ ih (by simp) _ h2
theorem news_snoc (M S : List Int) (j : Nat) (hj : j < S.length) : news M (S.take (j + 1)) = if S[j] ∈ M then news M (S.take j) else news M (S.take j) ++ [S[j]] := by
  unfold news
  rw [List.take_succ_eq_append_getElem hj, List.filter_append]
  by_cases h : S[j] ∈ M <;> simp [h]
theorem news_mem {M S : List Int} (hn : S.Nodup) (j : Nat) (hj : j < S.length) : S[j] ∈ M ++ news M (S.take j) ↔ S[j] ∈ M := by
  refine ⟨fun h => ?_, fun h => List.mem_append_left _ h⟩
  rcases List.mem_append.1 h with h | h
  · exact h
  · exfalso
    have h1 := (List.mem_filter.1 h).1
    obtain ⟨i, hi, e⟩ := List.mem_iff_getElem.1 h1
    rw [List.length_take] at hi
    rw [List.getElem_take] at e
    have := (List.getElem_inj hn).1 e
    omega
theorem mem_nbs (ns : List NB) (last pid y : Int) (hG : GOk ns last) : y ∈ nbs pid (sel (isOf pid) ns) ↔ Nb (ns.map (·.2)) pid y := by
  unfold nbs Nb
  rw [List.mem_flatMap]
  have good : ∀ b ∈ ns.map (·.2), Good b := fun b hb => by
    obtain ⟨q, hq, rfl⟩ := List.mem_map.1 hb
    exact hG.good q hq
  constructor
  · rintro ⟨b, hb, hy⟩
    obtain ⟨h1, h2⟩ := List.mem_filter.1 hb
    have hg := (good b h1).2.2
    unfold nb1 at hy
    refine ⟨b, h1, ?_⟩
    split at hy
    · simp at hy
    · rename_i h0
      have h3 : b.r = 0 := by omega
      refine ⟨h3, ?_⟩
      have h4 : b.a = pid ∨ b.b = pid := of_decide_eq_true h2
      split at hy
      · rename_i h5; exact .inl ⟨h5, by simpa using hy⟩
      · rename_i h5; exact .inr ⟨by rcases h4 with h | h; exact absurd h h5; exact h, by simpa using hy⟩
  · rintro ⟨b, hb, h0, h⟩
    have hg := (good b hb).2.2
    refine ⟨b, List.mem_filter.2 ⟨hb, decide_eq_true (by rcases h with h | h; exact .inl h.1; exact .inr h.1)⟩, ?_⟩
    unfold nb1
    rw [if_neg (by omega)]
    rcases h with ⟨h1, h2⟩ | ⟨h1, h2⟩
    · rw [if_pos h1]; simp [h2]
    · rw [if_neg (by omega)]; simp [h2]
theorem nodup_nbs (ns : List NB) (last pid : Int) (hG : GOk ns last) : (nbs pid (sel (isOf pid) ns)).Nodup := by
  unfold nbs List.Nodup
  rw [List.pairwise_flatMap]
  constructor
  · intro b _
    unfold nb1
    split
    · simp
    · split <;> simp
  · unfold sel
    have hp : (ns.map (·.2)).Pairwise (fun b c : Bd => b.r = 0 → c.r = 0 → (b.a, b.b) ≠ (c.a, c.b)) := List.pairwise_map.2 hG.pairs
    refine List.Pairwise.imp_of_mem ?_ (hp.filter (isOf pid))
    intro b c hb hc hbc x hx y hy
    rintro rfl
    obtain ⟨h1, h2⟩ := List.mem_filter.1 hb
    obtain ⟨h3, h4⟩ := List.mem_filter.1 hc
    obtain ⟨q, hq, rfl⟩ := List.mem_map.1 h1
    obtain ⟨q', hq', rfl⟩ := List.mem_map.1 h3
    have g1 := (hG.good q hq).2.2
    have g2 := (hG.good q' hq').2.2
    have o1 : q.2.a = pid ∨ q.2.b = pid := of_decide_eq_true h2
    have o2 : q'.2.a = pid ∨ q'.2.b = pid := of_decide_eq_true h4
    unfold nb1 at hx hy
    split at hx
    · simp at hx
    · split at hy
      · simp at hy
      · have e1 : q.2.r = 0 := by omega
        have e2 : q'.2.r = 0 := by omega
        apply hbc e1 e2
        split at hx <;> split at hy <;> simp at hx hy <;> (refine Prod.ext ?_ ?_ <;> simp only <;> omega)
theorem peers_set (ns : List NB) (last pid : Int) (hG : GOk ns last) : SetOf (srt (nbs pid (sel (isOf pid) ns))) (Nb (ns.map (·.2)) pid) :=
  (srt_set (nodup_nbs ns last pid hG)).imp (fun x => mem_nbs ns last pid x hG)
end Go.Proofs.Ytlbbheopoflmjaa
