/- Plain laws for Exit of parleyref29: what is stopped and started again; no condition. -/
import Derived.Test.YtiedfckgkjcheaaRc
import Derived.Test.YtiedfckgkjcheaaY
namespace Go.Proofs.Ytiedfckgkjcheaa
open Go.RowKit

theorem firstRun_ex (l : List Ch) (nm : ByteArray) : ∃ r, FirstRun l nm r := by
  cases h : l.findIdx? (fun c => beqS c.name nm && c.runs) with
  | none => exact ⟨-1, .inr ⟨rfl, List.findIdx?_eq_none_iff.1 h⟩⟩
  | some k =>
    obtain ⟨hk, h1, h2⟩ := List.findIdx?_eq_some_iff_getElem.1 h
    refine ⟨k, .inl ⟨k, hk, rfl, ⟨l[k], List.getElem?_eq_getElem hk, h1⟩, fun j c hj hc => ?_⟩⟩
    have := h2 j hj
    obtain ⟨hj', rfl⟩ := List.getElem?_eq_some_iff.1 hc
    simpa using this

/-- The child that has been found among the first k. -/
def LastR (l : List Ch) (nm : ByteArray) (k : Nat) (r : Int) : Prop :=
  (r = -1 ∧ ∀ j c, j < k → l[j]? = some c → (beqS c.name nm && c.runs) = false) ∨ (∃ (m : Nat) (c : Ch), m < k ∧ r = m ∧ l[m]? = some c ∧ (beqS c.name nm && c.runs) = true ∧ ∀ j c', j < m → l[j]? = some c' → (beqS c'.name nm && c'.runs) = false)
theorem LastR.zero (l : List Ch) (nm : ByteArray) : LastR l nm 0 (-1) := .inl ⟨rfl, fun j c h => by omega⟩
theorem LastR.no {l : List Ch} {nm : ByteArray} {k : Nat} {r : Int} (h : LastR l nm k r) {x : Ch} (hx : l[k]? = some x) (hn : (beqS x.name nm && x.runs) = false) : LastR l nm (k + 1) r := by
  rcases h with ⟨h1, h2⟩ | ⟨m, c, h1, h2, h3⟩
  · refine .inl ⟨h1, fun j c hj hc => ?_⟩
    by_cases e : j = k
    · subst e; rw [hx] at hc; cases hc; exact hn
    · exact h2 j c (by omega) hc
  · exact .inr ⟨m, c, by omega, h2, h3⟩
theorem LastR.yes {l : List Ch} (hu : (l.map (·.name)).Nodup) {nm : ByteArray} {k : Nat} {r : Int} (h : LastR l nm k r) {x : Ch} (hx : l[k]? = some x) (hn : (beqS x.name nm && x.runs) = true) : LastR l nm (k + 1) k := by
  rcases h with ⟨_, h2⟩ | ⟨m, c, h1, _, h3, h4, _⟩
  · exact .inr ⟨k, x, Nat.lt_succ_self _, rfl, hx, hn, fun j c' hj hc => h2 j c' hj hc⟩
  · rw [Bool.and_eq_true] at hn h4
    have := name_idx hu h3 hx (((beqS_iff _ _).1 h4.1).trans ((beqS_iff _ _).1 hn.1).symm)
    omega
theorem LastR.first {l : List Ch} {nm : ByteArray} {r : Int} (h : LastR l nm l.length r) : FirstRun l nm r := by
  rcases h with ⟨h1, h2⟩ | ⟨m, c, h1, h2, h3, h4, h5⟩
  · refine .inr ⟨h1, fun c hc => ?_⟩
    obtain ⟨j, hj, rfl⟩ := List.mem_iff_getElem.1 hc
    exact h2 j _ hj (List.getElem?_eq_getElem hj)
  · exact .inl ⟨m, h1, h2, ⟨c, h3, h4⟩, h5⟩

theorem dA_nil (l : List Ch) (mt : Nat → Bool) : dA l mt l.length = [] := by unfold dA; rw [List.drop_eq_nil_of_le (by simp)]; rfl
theorem dA_of (l : List Ch) (mt : Nat → Bool) (f : Nat) (hf : f ≤ l.length) (h : ∀ i d, l[i]? = some d → (d.runs && mt i) = (decide (f ≤ i) && d.runs)) : dA l allB f = dA l mt 0 := by
  have h1 : ∀ n j, n = l.length - j → f ≤ j → j ≤ l.length → dA l allB j = dA l mt j := by
    intro n
    induction n with
    | zero => intro j hn _ hj; obtain rfl : j = l.length := by omega
              rw [dA_nil, dA_nil]
    | succ n ih =>
      intro j hn hfj hj
      have hlt : j < l.length := by omega
      rw [dA_step l allB j hlt, dA_step l mt j hlt, ih (j + 1) (by omega) (by omega) (by omega), h j _ (List.getElem?_eq_getElem hlt)]
      simp [allB, hfj]
  have h2 : ∀ n j, n = f - j → j ≤ f → dA l mt j = dA l mt f := by
    intro n
    induction n with
    | zero => intro j hn hj; obtain rfl : j = f := by omega
              rfl
    | succ n ih =>
      intro j hn hj
      have hlt : j < l.length := by omega
      rw [dA_step l mt j hlt, ih (j + 1) (by omega) (by omega), h j _ (List.getElem?_eq_getElem hlt)]
      have : decide (f ≤ j) = false := by simp; omega
      rw [this]
      simp
  rw [h1 _ f rfl (Nat.le_refl _) hf, ← h2 _ 0 rfl (Nat.zero_le _)]
theorem stop_of {l l' : List Ch} (mt : Nat → Bool) (f : Nat) (h : ∀ i d, l[i]? = some d → (d.runs && mt i) = (decide (f ≤ i) && d.runs)) (hp : PW l l' (downF f)) : PW l l' (stopF mt id) :=
  hp.ext fun i c hc => by
    unfold downF stopF
    rw [h i c hc]
    by_cases e : f ≤ i
    · cases hr : c.runs
      · rw [if_pos e]
        have : setR false c = c := by rw [← hr]; rfl
        simp [this]
      · rw [if_pos e]
        simp [e]
    · rw [if_neg e]
      simp [e]
theorem ag_of {l : List Ch} {a a' : List Bool} (mt : Nat → Bool) (f : Nat) (h : ∀ i d, l[i]? = some d → (d.runs && mt i) = (decide (f ≤ i) && d.runs)) (hp : PW a a' (agF l allB yesC f)) : PW a a' (agF l mt yesC 0) :=
  hp.ext fun i b _ => by
    unfold agF
    rw [if_pos (Nat.zero_le i)]
    cases hc : l[i]? with
    | none => simp
    | some c =>
      simp only [h i c hc]
      by_cases e : f ≤ i <;> simp [e, allB]

theorem exL_mt {s : SupM} {k : Nat} {c : Ch} (hk : s.l[k]? = some c) (f : Nat) (hf : (s.st = 2 ∧ f = 0) ∨ (s.st = 3 ∧ f = k + 1)) (i : Nat) (d : Ch) (hd : (exL s k c)[i]? = some d) : (d.runs && withF s.st k i) = (decide (f ≤ i) && d.runs) := by
  have hi := (List.getElem?_eq_some_iff.1 hd).1
  rw [exL_len] at hi
  rw [exL_get hk i _ (List.getElem?_eq_getElem hi)] at hd
  by_cases e : i = k
  · rw [if_pos e] at hd
    cases hd
    simp [setR]
  · rcases hf with ⟨h1, rfl⟩ | ⟨h1, rfl⟩
    · have : withF s.st k i = true := by unfold withF; rw [if_pos h1]; simp; omega
      rw [this]; simp
    · have : withF s.st k i = decide (k + 1 ≤ i) := by
        unfold withF; rw [if_neg (by omega), if_pos h1]
        by_cases h : k + 1 ≤ i
        · have h' : (k : Int) < (i : Int) := by omega
          simp [h, h']
        · have h' : ¬ (k : Int) < (i : Int) := by omega
          simp [h, h']
      rw [this, Bool.and_comm]

/-- Which ones are started again, ahead of the Temporary ones being left out. -/
theorem ag3_get {s : SupM} {k : Nat} {c : Ch} (hk : s.l[k]? = some c) {ag : List Bool} (hp : PW (List.replicate s.l.length false) ag (agF (exL s k c) (withF s.st k) yesC 0)) (i : Nat) (d : Ch) (hd : s.l[i]? = some d) :
    (ag.set k true).getD i false = if i = k then true else (d.runs && withF s.st k i) := by
  have hi := (List.getElem?_eq_some_iff.1 hd).1
  have hl : ag.length = s.l.length := by rw [hp.len]; simp
  rw [List.getD_eq_getElem?_getD, List.getElem?_set]
  by_cases e : k = i
  · subst e
    rw [if_pos rfl, if_pos (by omega), if_pos rfl]
    rfl
  · rw [if_neg e, if_neg (fun h => e h.symm), hp.at_ i false (List.getElem?_replicate_of_lt hi)]
    simp only [Option.getD_some, agF, Nat.zero_le, if_true, exL_get hk i d hd, if_neg (fun h : i = k => e h.symm), yesC]
    cases (d.runs && withF s.st k i) <;> rfl

theorem fin_congr {s : SupM} {k : Nat} {c : Ch} (hk : s.l[k]? = some c) (normal : Bool) (tick : Int) (h3 : c.rs ≠ 3) (h2 : ¬ (c.rs = 2 ∧ normal = true)) (ho : ¬ s.it < countL (s.ends ++ [tick]) tick s.pe)
    {l2 l' : List Ch} (h1 : PW (exL s k c) l2 (stopF (withF s.st k) id)) (hp : PW l2 l' (fun i d => if (exA s k c).getD i false then setR true d else d)) :
    (exitS s k c normal tick).1.l.map kid = l'.map kid ∧ (exitS s k c normal tick).1.l.map (·.runs) = l'.map (·.runs) := by
  have hcalm : ¬ calmB c normal = true := fun h => (calm_or.1 h).elim h3 h2
  have hov : overB s tick = false := by unfold overB; simpa using ho
  have hlen : l'.length = s.l.length := by rw [hp.len, h1.len, exL_len]
  have key : ∀ i (hi : i < s.l.length), ∃ d d', (exitS s k c normal tick).1.l[i]? = some d ∧ l'[i]? = some d' ∧ kid d = kid d' ∧ d.runs = d'.runs := by
    intro i hi
    have hd := List.getElem?_eq_getElem hi
    refine ⟨_, _, exit_get hk normal tick i _ hd, hp.at_ i _ (h1.at_ i _ (exL_get hk i _ hd)), ?_⟩
    rw [hov]
    unfold exitC
    rw [if_neg hcalm, if_neg (by decide), exA_get hk i _ hd]
    by_cases e : i = k
    · subst e
      rw [hk] at hd
      have hcd := Option.some.inj hd
      rw [if_pos rfl, if_pos rfl, if_pos rfl, if_pos rfl]
      simp [stopF, setR, kid]
    · rw [if_neg e, if_neg e, if_neg e]
      cases hw : (s.l[i].runs && withF s.st k i)
      · simp [stopF, hw]
      · rw [if_pos rfl, if_pos rfl]
        by_cases hrs : s.l[i].rs = 3
        · rw [if_pos hrs, if_neg (by simp [hrs])]
          simp [stopF, hw, setR, goneF, kid]
        · rw [if_neg hrs, if_pos (by simp [hrs])]
          simp [stopF, hw, setR, goneF, kid]
  constructor
  · apply List.ext_getElem?
    intro i
    rw [List.getElem?_map, List.getElem?_map]
    by_cases hi : i < s.l.length
    · obtain ⟨d, d', e1, e2, e3, _⟩ := key i hi
      rw [e1, e2, Option.map_some, Option.map_some, e3]
    · rw [List.getElem?_eq_none_iff.2 (by rw [exit_len]; omega), List.getElem?_eq_none_iff.2 (by omega)]
  · apply List.ext_getElem?
    intro i
    rw [List.getElem?_map, List.getElem?_map]
    by_cases hi : i < s.l.length
    · obtain ⟨d, d', e1, e2, _, e3⟩ := key i hi
      rw [e1, e2, Option.map_some, Option.map_some, e3]
    · rw [List.getElem?_eq_none_iff.2 (by rw [exit_len]; omega), List.getElem?_eq_none_iff.2 (by omega)]

theorem l2_kid {s : SupM} {k : Nat} {c : Ch} (hk : s.l[k]? = some c) {l2 : List Ch} {mt : Nat → Bool} (h1 : PW (exL s k c) l2 (stopF mt id)) {j : Nat} {x d : Ch} (hx : s.l[j]? = some x) (hd : l2[j]? = some d) : d.name = x.name ∧ d.rs = x.rs := by
  have h2 := h1.at_ j _ (exL_get hk j x hx)
  rw [hd] at h2
  cases h2
  have h3 : ∀ y : Ch, (stopF mt id j y).name = y.name ∧ (stopF mt id j y).rs = y.rs := fun y => by unfold stopF; split <;> exact ⟨rfl, rfl⟩
  by_cases e : j = k
  · subst e
    rw [hk] at hx
    cases hx
    rw [if_pos rfl]
    exact h3 _
  · rw [if_neg e]
    exact h3 _
theorem exS_name {s : SupM} {k : Nat} {c : Ch} (hk : s.l[k]? = some c) {j : Nat} {x : Ch} (hx : s.l[j]? = some x) (hj : j < (exS s k c).length) : (exS s k c)[j].name = x.name := by
  have h1 := exS_get hk j x hx
  rw [List.getElem?_eq_getElem hj] at h1
  rw [Option.some.inj h1]
  by_cases e : j = k
  · subst e
    rw [hk] at hx
    cases hx
    rw [if_pos rfl]; rfl
  · rw [if_neg e]
    split <;> rfl
theorem exS_len (s : SupM) (k : Nat) (c : Ch) : (exS s k c).length = s.l.length := by simp [exS, exL]

end Go.Proofs.Ytiedfckgkjcheaa
