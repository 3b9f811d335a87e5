/- The plain law of SuperRuns: what runs is what was started and not stopped, and has not ended. -/
import Derived.Test.YtiedfckgkjcheaaV
namespace Go.Proofs.Ytiedfckgkjcheaa
open Go.RowKit

def withoutL (ns : List ByteArray) (x : ByteArray) : List ByteArray := ns.filter fun y => !beqS y x
theorem mem_without (ns : List ByteArray) (x y : ByteArray) : y ∈ withoutL ns x ↔ y ∈ ns ∧ y ≠ x := by
  unfold withoutL
  rw [List.mem_filter, Bool.not_eq_true', beqS_ne]
def stepA (r : List ByteArray) (a : AM) : List ByteArray := if a.start then r ++ [a.name] else withoutL r a.name
def okA : List ByteArray → List AM → Prop
  | _, [] => True
  | r, a :: xs => hasL r a.name = !a.start ∧ okA (stepA r a) xs
def foldA (r : List ByteArray) (xs : List AM) : List ByteArray := xs.foldl stepA r
theorem okA_append (r : List ByteArray) (xs zs : List AM) : okA r (xs ++ zs) ↔ okA r xs ∧ okA (foldA r xs) zs := by
  induction xs generalizing r with
  | nil => simp [okA, foldA]
  | cons a xs ih => simp only [List.cons_append, okA, ih, foldA, List.foldl_cons, and_assoc]
theorem foldA_append (r : List ByteArray) (xs zs : List AM) : foldA r (xs ++ zs) = foldA (foldA r xs) zs := by simp [foldA]
theorem stops_ok (ns : List ByteArray) : ∀ (r : List ByteArray), ns.Nodup → (∀ x ∈ ns, x ∈ r) → r.Nodup → okA r (ns.map (AM.mk false)) ∧ (foldA r (ns.map (AM.mk false))).Nodup ∧ ∀ x, x ∈ foldA r (ns.map (AM.mk false)) ↔ x ∈ r ∧ x ∉ ns := by
  induction ns with
  | nil => intro r _ _ hr; exact ⟨trivial, hr, fun x => by simp [foldA]⟩
  | cons n ns ih =>
    intro r hn hm hr
    obtain ⟨h1, h2⟩ := List.nodup_cons.1 hn
    obtain ⟨i1, i2, i3⟩ := ih (withoutL r n) h2 (fun x hx => (mem_without r n x).2 ⟨hm x (by simp [hx]), fun e => h1 (e ▸ hx)⟩) (hr.filter _)
    refine ⟨⟨(hasL_iff _ _).2 (hm n (by simp)), i1⟩, i2, fun x => ?_⟩
    show x ∈ foldA (withoutL r n) _ ↔ _
    rw [i3, mem_without, List.mem_cons]
    constructor
    · rintro ⟨⟨a, b⟩, c⟩; exact ⟨a, fun h => h.elim b c⟩
    · rintro ⟨a, b⟩; exact ⟨⟨a, fun h => b (.inl h)⟩, fun h => b (.inr h)⟩
theorem starts_ok (ns : List ByteArray) : ∀ (r : List ByteArray), ns.Nodup → (∀ x ∈ ns, x ∉ r) → r.Nodup → okA r (ns.map (AM.mk true)) ∧ (foldA r (ns.map (AM.mk true))).Nodup ∧ ∀ x, x ∈ foldA r (ns.map (AM.mk true)) ↔ x ∈ r ∨ x ∈ ns := by
  induction ns with
  | nil => intro r _ _ hr; exact ⟨trivial, hr, fun x => by simp [foldA]⟩
  | cons n ns ih =>
    intro r hn hm hr
    obtain ⟨h1, h2⟩ := List.nodup_cons.1 hn
    have hnr : n ∉ r := hm n (by simp)
    obtain ⟨i1, i2, i3⟩ := ih (r ++ [n]) h2 (fun x hx h => by
      rcases List.mem_append.1 h with h | h
      · exact hm x (by simp [hx]) h
      · simp at h; exact h1 (h ▸ hx)) (List.nodup_append.2 ⟨hr, by simp, fun a ha b hb e => by simp at hb; exact hnr (hb ▸ e ▸ ha)⟩)
    refine ⟨⟨(hasL_false _ _).2 hnr, i1⟩, i2, fun x => ?_⟩
    show x ∈ foldA (r ++ [n]) _ ↔ _
    rw [i3, List.mem_append, List.mem_cons, List.mem_cons]
    simp only [List.not_mem_nil, or_false]
    constructor
    · rintro ((h | h) | h)
      · exact .inl h
      · exact .inr (.inl h)
      · exact .inr (.inr h)
    · rintro (h | h | h)
      · exact .inl (.inl h)
      · exact .inl (.inr h)
      · exact .inr h

theorem names_nodup {cs : List CS} (h : Uniq cs) {l : List Ch} (hk : l.map kid = cs) : (l.map (·.name)).Nodup := by
  rw [List.nodup_iff_pairwise_ne, List.pairwise_iff_getElem]
  intro i j hi hj hij e
  simp only [List.length_map] at hi hj
  rw [List.getElem_map, List.getElem_map] at e
  have h1 : cs[i]? = some (kid l[i]) := by rw [← hk, List.getElem?_map, List.getElem?_eq_getElem hi]; rfl
  have h2 : cs[j]? = some (kid l[j]) := by rw [← hk, List.getElem?_map, List.getElem?_eq_getElem hj]; rfl
  have := h i j _ _ h1 h2 e
  omega
/-- The names of those children for which p holds. -/
def namesOf (l : List Ch) (p : Nat → Ch → Bool) : List ByteArray := (l.zipIdx.filter fun x => p x.2 x.1).map fun x => x.1.name
theorem mem_namesOf (l : List Ch) (p : Nat → Ch → Bool) (x : ByteArray) : x ∈ namesOf l p ↔ ∃ (i : Nat) (d : Ch), l[i]? = some d ∧ p i d = true ∧ d.name = x := by
  unfold namesOf
  rw [List.mem_map]
  constructor
  · rintro ⟨⟨d, i⟩, hd, rfl⟩
    obtain ⟨h1, h2⟩ := List.mem_filter.1 hd
    have := List.mem_zipIdx_iff_getElem?.1 h1
    exact ⟨i, d, this, h2, rfl⟩
  · rintro ⟨i, d, hd, hp, rfl⟩
    exact ⟨(d, i), List.mem_filter.2 ⟨List.mem_zipIdx_iff_getElem?.2 hd, hp⟩, rfl⟩
theorem namesOf_nodup {l : List Ch} (h : (l.map (·.name)).Nodup) (p : Nat → Ch → Bool) : (namesOf l p).Nodup := by
  unfold namesOf
  refine List.Nodup.sublist (List.Sublist.map _ List.filter_sublist) ?_
  have : l.zipIdx.map (fun x => x.1.name) = l.map (·.name) := by
    have h1 : l.zipIdx.map Prod.fst = l := List.zipIdx_map_fst 0 l
    conv => rhs; rw [← h1, List.map_map]
    rfl
  rw [this]
  exact h
theorem runningL_names (l : List Ch) (h : (l.map (·.name)).Nodup) : (runningL l).Nodup := by
  unfold runningL
  exact List.Nodup.sublist (List.Sublist.map _ List.filter_sublist) h
theorem dA_names (l : List Ch) (mt : Nat → Bool) : dA l mt 0 = (namesOf l (fun i c => c.runs && mt i)).reverse.map (AM.mk false) := by
  unfold dA namesOf
  rw [List.drop_zero, ← List.map_reverse, ← List.map_reverse, List.map_map]
  rfl
theorem upA_names (l : List Ch) (ag : List Bool) : upA l ag = (namesOf l (fun i _ => ag.getD i false)).map (AM.mk true) := by
  unfold upA namesOf
  rw [List.map_map]
  rfl

/-- What the law keeps beside a supervisor: those that run. -/
structure Rep (runs : List ByteArray) (l : List Ch) : Prop where
  nodup : runs.Nodup
  mem : ∀ x, x ∈ runs ↔ x ∈ runningL l
theorem Rep.len {runs : List ByteArray} {l : List Ch} (h : Rep runs l) (hn : (l.map (·.name)).Nodup) : runs.length = (runningL l).length :=
  ((List.perm_ext_iff_of_nodup h.nodup (runningL_names l hn)).2 h.mem).length_eq
theorem name_idx {l : List Ch} (hn : (l.map (·.name)).Nodup) {i j : Nat} {c d : Ch} (hc : l[i]? = some c) (hd : l[j]? = some d) (e : c.name = d.name) : i = j := by
  obtain ⟨hi, rfl⟩ := List.getElem?_eq_some_iff.1 hc
  obtain ⟨hj, rfl⟩ := List.getElem?_eq_some_iff.1 hd
  have hp := List.pairwise_iff_getElem.1 hn
  have e1 : (l.map fun (x : Ch) => x.name)[i]'(by simpa using hi) = l[i].name := List.getElem_map _
  have e2 : (l.map fun (x : Ch) => x.name)[j]'(by simpa using hj) = l[j].name := List.getElem_map _
  rcases Nat.lt_trichotomy i j with h | h | h
  · exact absurd (e1.trans (e.trans e2.symm)) (hp i j _ _ h)
  · exact h
  · exact absurd (e2.trans (e.symm.trans e1.symm)) (hp j i _ _ h)

theorem start_runs {l : List Ch} (hn : (l.map (·.name)).Nodup) (h0 : ∀ x, x ∉ runningL l) {runs : List ByteArray} (h : Rep runs l) :
    okA runs (l.map fun (c : Ch) => (⟨true, c.name⟩ : AM)) ∧ Rep (foldA runs (l.map fun (c : Ch) => (⟨true, c.name⟩ : AM))) (l.map (setR true)) := by
  have e : (l.map fun c => (⟨true, c.name⟩ : AM)) = (l.map (·.name)).map (AM.mk true) := by rw [List.map_map]; rfl
  rw [e]
  have hr : ∀ x, x ∉ runs := fun x hx => h0 x ((h.mem x).1 hx)
  obtain ⟨h1, h2, h3⟩ := starts_ok (l.map (·.name)) runs hn (fun x _ => hr x) h.nodup
  refine ⟨h1, h2, fun x => ?_⟩
  rw [h3]
  have : runningL (l.map (setR true)) = l.map (·.name) := by
    unfold runningL
    rw [List.filter_eq_self.2 (by intro c hc; obtain ⟨d, _, rfl⟩ := List.mem_map.1 hc; rfl), List.map_map]
    rfl
  rw [this]
  exact ⟨fun h => h.elim (fun h => absurd h (hr x)) id, .inr⟩
theorem none_run (l : List Ch) (x : ByteArray) : x ∉ runningL (l.map (setR false)) := by
  rw [mem_running]
  rintro ⟨i, d, hd, hr, _⟩
  rw [List.getElem?_map] at hd
  cases h : l[i]? with
  | none => rw [h] at hd; cases hd
  | some c => rw [h] at hd; cases hd; cases hr
theorem stop_runs {l : List Ch} (hn : (l.map (·.name)).Nodup) {runs : List ByteArray} (h : Rep runs l) :
    okA runs (dA l (fun _ => true) 0) ∧ Rep (foldA runs (dA l (fun _ => true) 0)) (l.map (setR false)) := by
  rw [dA_names]
  have hm : ∀ x, x ∈ (namesOf l (fun i c => c.runs && true)).reverse ↔ x ∈ runningL l := fun x => by
    rw [List.mem_reverse, mem_namesOf, mem_running]; simp
  obtain ⟨h1, h2, h3⟩ := stops_ok (namesOf l (fun i c => c.runs && true)).reverse runs ((List.reverse_perm _).nodup_iff.2 (namesOf_nodup hn _)) (fun x hx => (h.mem x).2 ((hm x).1 hx)) h.nodup
  refine ⟨h1, h2, fun x => ?_⟩
  rw [h3, hm]
  exact ⟨fun ⟨a, b⟩ => absurd ((h.mem x).1 a) b, fun a => absurd a (none_run l x)⟩

theorem mem_run_of {l l' : List Ch} (f : Nat → Ch → Ch) (hf : ∀ (i : Nat) (d : Ch), l[i]? = some d → l'[i]? = some (f i d)) (hl : l'.length = l.length) (x : ByteArray) :
    x ∈ runningL l' ↔ ∃ (i : Nat) (d : Ch), l[i]? = some d ∧ (f i d).runs = true ∧ (f i d).name = x := by
  rw [mem_running]
  constructor
  · rintro ⟨i, d', hd, hr, hn⟩
    have hi := (List.getElem?_eq_some_iff.1 hd).1
    have h1 := List.getElem?_eq_getElem (show i < l.length by omega)
    have h2 := hf i _ h1
    rw [hd] at h2
    cases h2
    exact ⟨i, _, h1, hr, hn⟩
  · rintro ⟨i, d, hd, hr, hn⟩
    exact ⟨i, _, hf i d hd, hr, hn⟩
theorem exL_names {s : SupM} {k : Nat} {c : Ch} (hk : s.l[k]? = some c) : (exL s k c).map (·.name) = s.l.map (·.name) := by
  apply List.ext_getElem?
  intro i
  rw [List.getElem?_map, List.getElem?_map]
  cases hd : s.l[i]? with
  | none =>
    have : (exL s k c)[i]? = none := by rw [List.getElem?_eq_none_iff] at hd ⊢; simpa [exL] using hd
    rw [this]
  | some d =>
    rw [exL_get hk i d hd]
    by_cases e : i = k
    · subst e
      rw [hk] at hd
      cases hd
      rw [if_pos rfl]; rfl
    · rw [if_neg e]
theorem exL_len (s : SupM) (k : Nat) (c : Ch) : (exL s k c).length = s.l.length := by simp [exL]
theorem exL_rep {s : SupM} {k : Nat} {c : Ch} (hk : s.l[k]? = some c) (hn : (s.l.map (·.name)).Nodup) {runs : List ByteArray} (h : Rep runs s.l) : Rep (withoutL runs c.name) (exL s k c) := by
  refine ⟨h.nodup.filter _, fun x => ?_⟩
  rw [mem_without, h.mem, mem_running, mem_run_of _ (exL_get hk) (exL_len s k c)]
  constructor
  · rintro ⟨⟨i, d, hd, hr, rfl⟩, hne⟩
    have e : i ≠ k := fun e => hne (by subst e; rw [hk] at hd; cases hd; rfl)
    exact ⟨i, d, hd, by rw [if_neg e]; exact hr, by rw [if_neg e]⟩
  · rintro ⟨i, d, hd, hr, hx⟩
    by_cases e : i = k
    · rw [if_pos e] at hr; cases hr
    · rw [if_neg e] at hr hx
      refine ⟨⟨i, d, hd, hr, hx⟩, fun e2 => e (name_idx hn hd hk (hx.trans e2))⟩

theorem exit_runs {s : SupM} {k : Nat} {c : Ch} (hk : s.l[k]? = some c) (hn : (s.l.map (·.name)).Nodup) (normal : Bool) (tick : Int) {runs : List ByteArray} (h : Rep runs s.l) :
    okA (withoutL runs c.name) (exitS s k c normal tick).2 ∧ Rep (foldA (withoutL runs c.name) (exitS s k c normal tick).2) (exitS s k c normal tick).1.l := by
  have hr0 := exL_rep hk hn h
  have hnL : ((exL s k c).map (·.name)).Nodup := by rw [exL_names hk]; exact hn
  by_cases h3 : c.rs = 3
  · have e : exitS s k c normal tick = ({ s with la := tick, l := s.l.set k { setR false c with gone := true } }, []) := by unfold exitS; rw [if_pos h3]
    rw [e]
    refine ⟨trivial, hr0.nodup, fun x => ?_⟩
    show x ∈ withoutL runs c.name ↔ _
    rw [hr0.mem, mem_run_of _ (exL_get hk) (exL_len s k c)]
    have hg : ∀ (i : Nat) (d : Ch), s.l[i]? = some d → (s.l.set k { setR false c with gone := true })[i]? = some (if i = k then { setR false c with gone := true } else d) := by
      intro i d hd
      rw [List.getElem?_set]
      by_cases e : k = i
      · subst e
        rw [if_pos rfl, if_pos (List.getElem?_eq_some_iff.1 hk).1, if_pos rfl]
      · rw [if_neg e, if_neg (fun h => e h.symm), hd]
    rw [mem_run_of _ hg (by simp)]
    constructor
    · rintro ⟨i, d, hd, hr, hx⟩
      refine ⟨i, d, hd, ?_⟩
      by_cases e : i = k
      · rw [if_pos e] at hr; cases hr
      · rw [if_neg e] at hr hx ⊢; exact ⟨hr, hx⟩
    · rintro ⟨i, d, hd, hr, hx⟩
      refine ⟨i, d, hd, ?_⟩
      by_cases e : i = k
      · rw [if_pos e] at hr; cases hr
      · rw [if_neg e] at hr hx ⊢; exact ⟨hr, hx⟩
  by_cases h2 : c.rs = 2 ∧ normal = true
  · have e : exitS s k c normal tick = ({ s with la := tick, l := exL s k c }, []) := by unfold exitS; rw [if_neg h3, if_pos h2]; rfl
    rw [e]
    exact ⟨trivial, hr0⟩
  by_cases ho : s.it < countL (s.ends ++ [tick]) tick s.pe
  · have e : exitS s k c normal tick = ({ s with la := tick, l := (exL s k c).map (setR false), ends := s.ends ++ [tick], ov := true }, dA (exL s k c) (fun _ => true) 0) := by unfold exitS; rw [if_neg h3, if_neg h2, if_pos ho]; rfl
    rw [e]
    exact stop_runs hnL hr0
  have e : exitS s k c normal tick = ({ s with la := tick, ends := s.ends ++ [tick], l := upL (exS s k c) (exA s k c) }, dA (exL s k c) (withF s.st k) 0 ++ upA (exS s k c) (exA s k c)) := by
    unfold exitS; rw [if_neg h3, if_neg h2, if_neg ho]; rfl
  have hcalm : ¬ calmB c normal = true := fun h => (calm_or.1 h).elim h3 h2
  have hov : overB s tick = false := by unfold overB; simpa using ho
  have hget := fun (i : Nat) (d : Ch) hd => exit_get hk normal tick i d hd
  have hlen := exit_len (s := s) (k := k) (c := c) normal tick
  rw [hov] at hget
  have hcC : ∀ (i : Nat) (d : Ch), exitC s k c normal false i d = if i = k then setR true c else if d.runs && withF s.st k i then (if d.rs = 3 then setR false (goneF d) else setR true (goneF d)) else d := by
    intro i d; unfold exitC; rw [if_neg hcalm, if_neg (by decide)]
  rw [e] at hget hlen ⊢
  simp only at hget hlen ⊢
  rw [dA_names, upA_names, okA_append, foldA_append]
  have hsn : ((exS s k c).map (·.name)).Nodup := by
    have : (exS s k c).map (·.name) = (exL s k c).map (·.name) := by
      unfold exS
      apply List.ext_getElem?
      intro i
      rw [List.getElem?_map, List.getElem?_mapIdx, List.getElem?_map]
      cases (exL s k c)[i]? with
      | none => rfl
      | some d => simp only [Option.map_some, stopF]; split <;> rfl
    rw [this]; exact hnL
  have hstops : ∀ x, x ∈ (namesOf (exL s k c) (fun i c => c.runs && withF s.st k i)).reverse ↔ ∃ (i : Nat) (d : Ch), s.l[i]? = some d ∧ i ≠ k ∧ (d.runs && withF s.st k i) = true ∧ d.name = x := by
    intro x
    rw [List.mem_reverse, mem_namesOf]
    constructor
    · rintro ⟨i, d', hd', hp, hx⟩
      have hi := (List.getElem?_eq_some_iff.1 hd').1
      rw [exL_len] at hi
      have h1 := List.getElem?_eq_getElem hi
      rw [exL_get hk i _ h1] at hd'
      by_cases ei : i = k
      · rw [if_pos ei] at hd'; cases hd'; simp [setR] at hp
      · rw [if_neg ei] at hd'; cases hd'; exact ⟨i, _, h1, ei, hp, hx⟩
    · rintro ⟨i, d, hd, ei, hp, hx⟩
      exact ⟨i, d, by rw [exL_get hk i d hd, if_neg ei], hp, hx⟩
  have hstarts : ∀ x, x ∈ namesOf (exS s k c) (fun i _ => (exA s k c).getD i false) ↔ x = c.name ∨ ∃ (i : Nat) (d : Ch), s.l[i]? = some d ∧ i ≠ k ∧ (d.runs && withF s.st k i) = true ∧ d.rs ≠ 3 ∧ d.name = x := by
    intro x
    rw [mem_namesOf]
    constructor
    · rintro ⟨i, d', hd', hp, hx⟩
      have hi := (List.getElem?_eq_some_iff.1 hd').1
      have hi' : i < s.l.length := by simpa [exS, exL] using hi
      have h1 := List.getElem?_eq_getElem hi'
      rw [exS_get hk i _ h1] at hd'
      rw [exA_get hk i _ h1] at hp
      by_cases ei : i = k
      · rw [if_pos ei] at hd'; cases hd'; exact .inl hx.symm
      · rw [if_neg ei] at hd' hp
        by_cases hw : (s.l[i].runs && withF s.st k i) = true
        · rw [if_pos hw] at hd' hp
          cases hd'
          exact .inr ⟨i, _, h1, ei, hw, by simpa using hp, hx⟩
        · rw [if_neg hw] at hp; cases hp
    · rintro (rfl | ⟨i, d, hd, ei, hw, hrs, hx⟩)
      · exact ⟨k, _, exS_get hk k c hk, by rw [exA_get hk k c hk, if_pos rfl], by rw [if_pos rfl]; rfl⟩
      · refine ⟨i, _, exS_get hk i d hd, by rw [exA_get hk i d hd, if_neg ei, if_pos hw]; simpa using hrs, ?_⟩
        rw [if_neg ei, if_pos hw]; exact hx
  obtain ⟨a1, a2, a3⟩ := stops_ok _ (withoutL runs c.name) ((List.reverse_perm _).nodup_iff.2 (namesOf_nodup hnL (fun i c => c.runs && withF s.st k i))) (fun x hx => by
    obtain ⟨i, d, hd, ei, hp, hx⟩ := (hstops x).1 hx
    rw [Bool.and_eq_true] at hp
    refine (mem_without _ _ _).2 ⟨(h.mem x).2 ((mem_running _ _).2 ⟨i, d, hd, hp.1, hx⟩), fun e2 => ei (name_idx hn hd hk (hx.trans e2))⟩) hr0.nodup
  obtain ⟨b1, b2, b3⟩ := starts_ok _ _ (namesOf_nodup hsn (fun i _ => (exA s k c).getD i false)) (fun x hx hx2 => by
    obtain ⟨h4, h5⟩ := (a3 x).1 hx2
    rcases (hstarts x).1 hx with rfl | ⟨i, d, hd, ei, hw, hrs, hx'⟩
    · exact ((mem_without _ _ _).1 h4).2 rfl
    · exact h5 ((hstops x).2 ⟨i, d, hd, ei, hw, hx'⟩)) a2
  refine ⟨⟨a1, b1⟩, b2, fun x => ?_⟩
  rw [b3, a3, hstarts, hstops, mem_without, h.mem, mem_running, mem_run_of _ hget hlen]
  constructor
  · rintro (⟨⟨⟨i, d, hd, hr, hx⟩, hne⟩, hns⟩ | rfl | ⟨i, d, hd, ei, hw, hrs, hx⟩)
    · have ei : i ≠ k := fun e => hne (by subst e; rw [hk] at hd; cases hd; exact hx.symm)
      refine ⟨i, d, hd, ?_⟩
      rw [hcC, if_neg ei, if_neg (fun hw => hns ⟨i, d, hd, ei, hw, hx⟩)]
      exact ⟨hr, hx⟩
    · refine ⟨k, c, hk, ?_⟩
      rw [hcC, if_pos rfl]
      exact ⟨rfl, rfl⟩
    · refine ⟨i, d, hd, ?_⟩
      rw [hcC, if_neg ei, if_pos hw, if_neg hrs]
      exact ⟨rfl, hx⟩
  · rintro ⟨i, d, hd, hr, hx⟩
    rw [hcC] at hr hx
    by_cases ei : i = k
    · rw [if_pos ei] at hx
      exact .inr (.inl hx.symm)
    · rw [if_neg ei] at hr hx
      by_cases hw : (d.runs && withF s.st k i) = true
      · rw [if_pos hw] at hr hx
        by_cases hrs : d.rs = 3
        · rw [if_pos hrs] at hr; cases hr
        · rw [if_neg hrs] at hx
          exact .inr (.inr ⟨i, d, hd, ei, hw, hrs, hx⟩)
      · rw [if_neg hw] at hr hx
        refine .inl ⟨⟨⟨i, d, hd, hr, hx⟩, fun e2 => ei (name_idx hn hd hk (hx.trans e2))⟩, ?_⟩
        rintro ⟨j, e2, he, ej, hwj, hxj⟩
        have : j = i := name_idx hn he hd (hxj.trans hx.symm)
        subst this
        rw [hd] at he
        cases he
        exact hw hwj

end Go.Proofs.Ytiedfckgkjcheaa
